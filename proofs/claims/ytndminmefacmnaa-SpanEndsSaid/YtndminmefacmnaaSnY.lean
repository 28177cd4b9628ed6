/-
  Nested, as the document has it.
-/
import Derived.Test.YtndminmefacmnaaSnX
namespace Go.Proofs.Ytndminmefacmnaa
open Go.RowKit Go.Lib

theorem apart_eq {a b : Sg} {q1 q2 is : Bool} {z : Int} (h1 : inS a b = q1) (h2 : inS b a = q2) (h3 : meetIs a b = is) (h4 : lenS (meetS a b) = z) : apartS a b = (q1 || q2 || !is || (z == 0)) := by
  unfold apartS
  rw [h1, h2, h3, h4]
theorem gen_any2 {P : Program} {md : Region.Mode} {ops : Array Oper} {Q : Exit → Act → World → Prop} {S : World → Prop} {fuel : Nat} {listed : Array Bool} {a : Act} {w : World} (S2 : World → Prop) (h : S2 w)
    (k : ∀ w', S2 w' → wpAnyH P md ops Q S fuel listed a w') : wpAnyH P md ops Q S fuel listed a w := k w h
theorem lenS_nn (s : Sg) : 0 ≤ lenS s := by
  unfold lenS
  split
  · rename_i h
    simp only [rightS, decide_eq_true_eq] at h
    omega
  · omega
set_option maxRecDepth 100000 in
set_option maxHeartbeats 4000000 in
theorem rNested_any (v : Value) (l : List Sg) (w : World) (h : SgsAt w v l) (hl : l.length ≤ 100000) (hto : ∀ s ∈ l, s.to ≤ 9223372036854775807) :
    Calls Try.prog 31 #[v] w fun e w' => e = .returned (.bool (nestS l)) ∧ Below w.heap.size w w' := by
  have H := Lib.hid h
  have HTo := Lib.hid hto
  obtain ⟨ao, cap, rfl⟩ := h.val
  obtain ⟨n, hn⟩ : ∃ n, n = l.length := ⟨_, rfl⟩
  have HN := Lib.hid hn
  have hc1 := h.cells.2.1
  have hc2 := h.cells.2.2.1
  rw [← hn] at H hl hc1 ⊢
  have hc3 : cap ≤ 9223372036854775807 := by unfold maxLen at hc2; omega
  clear h hn hto hc2
  go_enter Try.func31, Try.ntmps31
  go_wp2
  go_loopw [3] (fun i wr => ∃ k : Nat, k ≤ n ∧ i = .int .i64 k ∧ Hid (∀ j, j < k → Good l j) ∧ Hid (Below w.heap.size w wr)) (fun i _ => n - (intOf i).toNat)
  case atStart => exact ⟨0, by omega, rfl, Lib.hid (fun j hj => absurd hj (by omega)), Lib.hid (Below.refl _ _)⟩
  case round =>
    obtain ⟨k, hk, rfl, HT, HB⟩ := hrel
    by_cases hlt : k < n
    · have hlt' : (k : Int) < n := by omega
      have hk0 : (0 : Int) ≤ k := by omega
      have hkc : (k : Int) ≤ cap := by omega
      have hkL : k < l.length := by rw [← HN.out]; exact hlt
      obtain ⟨bb, off, rfl, -, c0, c1⟩ := (H.out.later HB.out).cells.2.2.2.2 k hkL
      obtain ⟨⟨fr, tz⟩, hs⟩ : ∃ s, s = l[k] := ⟨_, rfl⟩
      rw [← hs] at c0 c1
      have HS := Lib.hid ((getD_at hkL).trans hs.symm)
      have HTz := Lib.hid (show tz ≤ 9223372036854775807 from HTo.out ⟨fr, tz⟩ (by rw [hs]; exact List.getElem_mem _))
      simp only at c0 c1
      clear hs
      have HR := Lib.hid (fun u => rRight_any fr tz u)
      have HE := Lib.hid (show ∀ u, Below w.heap.size w u → u.cell? ⟨bb, off + k * 2, none⟩ = some (.int .i64 fr) ∧ u.cell? ⟨bb, off + k * 2 + 1, none⟩ = some (.int .i64 tz) from fun u hu => by
        obtain ⟨b', off', hbe, -, e0, e1⟩ := (H.out.later hu).cells.2.2.2.2 k hkL
        simp only [Option.some.injEq, Addr.mk.injEq, and_true] at hbe
        obtain ⟨rfl, rfl⟩ := hbe
        have h9 := HS.out
        rw [getD_at hkL] at h9
        rw [h9] at e0 e1
        exact ⟨e0, e1⟩)
      cases hr : srB fr tz
      · rw [hr] at HR
        have HNo := Lib.hid (nestS_no hkL (fun hg => by
          have := hg.1
          rw [HS.out, ← srB_eq, hr] at this
          cases this))
        clear hr
        go_wp2_with fail
        refine (HR.out _).mono ?_
        rintro e u2 ⟨rfl, hb⟩
        have HB2 := Lib.hid (HB.out.trans (hb.mono HB.out.size))
        clear hb c0 c1
        go_wp2
        go_ret
        exact ⟨ret_bool HNo.out.symm, HB2.out⟩
      · rw [hr] at HR
        have HRr := Lib.hid (show rightS ⟨fr, tz⟩ = true from hr)
        clear hr
        go_wp2_with fail
        refine (HR.out _).mono ?_
        rintro e u2 ⟨rfl, hb⟩
        have HB2 := Lib.hid (HB.out.trans (hb.mono HB.out.size))
        clear hb c0 c1 HB
        go_wp2
        go_loopw [4] (fun i wr => ∃ j : Nat, j ≤ k ∧ i = .int .i64 j ∧ Hid (∀ j', j' < j → apartS ⟨fr, tz⟩ (l.getD j' ⟨0, 0⟩) = true) ∧ Hid (Below w.heap.size w wr)) (fun i _ => k - (intOf i).toNat)
        case atStart => exact ⟨0, by omega, rfl, Lib.hid (fun j hj => absurd hj (by omega)), HB2⟩
        case round =>
          obtain ⟨j, hj, rfl, HU, HB⟩ := hrel
          clear HB2
          by_cases hltj : j < k
          · have hltj' : (j : Int) < k := by omega
            have hjn : (j : Int) < n := by omega
            have hjL : j < l.length := by omega
            obtain ⟨⟨ofr, otz⟩, ho⟩ : ∃ s, s = l[j] := ⟨_, rfl⟩
            have HO := Lib.hid ((getD_at hjL).trans ho.symm)
            have HD := Lib.hid (show ∀ u, Below w.heap.size w u → u.cell? ⟨bb, off + j * 2, none⟩ = some (.int .i64 ofr) ∧ u.cell? ⟨bb, off + j * 2 + 1, none⟩ = some (.int .i64 otz) from fun u hu => by
              obtain ⟨b', off', hbe, -, e0, e1⟩ := (H.out.later hu).cells.2.2.2.2 j hjL
              simp only [Option.some.injEq, Addr.mk.injEq, and_true] at hbe
              obtain ⟨rfl, rfl⟩ := hbe
              rw [← ho] at e0 e1
              exact ⟨e0, e1⟩)
            clear ho
            obtain ⟨⟨mf, mt⟩, hm⟩ : ∃ m, meetS ⟨fr, tz⟩ ⟨ofr, otz⟩ = m := ⟨_, rfl⟩
            obtain ⟨is, his⟩ : ∃ is, meetIs ⟨fr, tz⟩ ⟨ofr, otz⟩ = is := ⟨_, rfl⟩
            obtain ⟨q1, hq1⟩ : ∃ q1, inS ⟨fr, tz⟩ ⟨ofr, otz⟩ = q1 := ⟨_, rfl⟩
            obtain ⟨q2, hq2⟩ : ∃ q2, inS ⟨ofr, otz⟩ ⟨fr, tz⟩ = q2 := ⟨_, rfl⟩
            obtain ⟨z, hz⟩ : ∃ z, lenS ⟨mf, mt⟩ = z := ⟨_, rfl⟩
            have hz0 : 0 ≤ z := by rw [← hz]; exact lenS_nn _
            have hmt : mt ≤ 9223372036854775807 := by
              have := meet_to ⟨fr, tz⟩ ⟨ofr, otz⟩ HTz.out (by omega)
              rw [hm] at this
              exact this
            have M1 := Lib.hid (fun u => rMeet_any fr tz ofr otz u)
            have K1 := Lib.hid (fun u => rIn_any fr tz ofr otz u)
            have K2 := Lib.hid (fun u => rIn_any ofr otz fr tz u)
            have K3 := Lib.hid (fun u => rLen_any mf mt u hmt)
            rw [hm, his] at M1
            rw [hq1] at K1
            rw [hq2] at K2
            rw [hz] at K3
            simp only [sgv] at M1
            have HAp := Lib.hid (apart_eq (z := z) hq1 hq2 his (by rw [hm]; exact hz))
            clear hm his hq1 hq2 hz hmt
            obtain ⟨e0, e1⟩ := HE.out wr HB.out
            obtain ⟨d0, d1⟩ := HD.out wr HB.out
            go_upto_region 9 with (fail)
            go_cut [5, 6] (fun y5 y6 w1 => ∃ Y, y5 = .pointer (some ⟨Y, 0, none⟩) ∧ y6 = .bool is ∧ Below w.heap.size w w1 ∧ w1.heap[Y]? = some (.cells #[.int .i64 mf, .int .i64 mt] 23 (0, 0)))
            case first =>
              obtain ⟨B0, hB0⟩ : ∃ B0, B0 = wr.heap.size := ⟨_, rfl⟩
              have HBm := Lib.hid (show w.heap.size ≤ B0 from by rw [hB0]; exact HB.out.size)
              have HSz := Lib.hid (show ∀ u, Below B0 wr u → B0 ≤ u.heap.size from fun u h => by rw [hB0] at h ⊢; exact h.size)
              have HDr := Lib.hid (show Below B0 wr wr.drew from by rw [hB0]; exact (Below.refl wr.heap.size wr).drew)
              clear hB0
              refine wp_region_held_drew (S := fun u => Below B0 wr u) (by kernel_rfl) HDr.out (fun hS => ?_)
              refine wpAnyH_take (i := 0) (oi := ⟨_, _, _, _, _, _⟩) (v := ?v1) rfl (by kernel_rfl) (by kernel_rfl) (by kernel_rfl) (fun _ _ _ h => h) ?y1 hS ?_
              case y1 => first | (refine Or.inr ⟨by rfl, ?_⟩; with_reducible rfl) | (refine Or.inl ⟨by rfl, ?_⟩; intro wS hSw; obtain ⟨q0, q1⟩ := HE.out wS (HB.out.trans (hSw.mono HBm.out)); obtain ⟨q2, q3⟩ := HD.out wS (HB.out.trans (hSw.mono HBm.out)); go_simp; try with_reducible rfl)
              simp only [Act.put, List.setIfInBounds_toArray, List.set_cons_zero, List.set_cons_succ]
              refine wpAnyH_take (i := 1) (oi := ⟨_, _, _, _, _, _⟩) (v := ?v2) rfl (by kernel_rfl) (by kernel_rfl) (by kernel_rfl) (fun _ _ _ h => h) ?y2 hS ?_
              case y2 => first | (refine Or.inr ⟨by rfl, ?_⟩; with_reducible rfl) | (refine Or.inl ⟨by rfl, ?_⟩; intro wS hSw; obtain ⟨q0, q1⟩ := HE.out wS (HB.out.trans (hSw.mono HBm.out)); obtain ⟨q2, q3⟩ := HD.out wS (HB.out.trans (hSw.mono HBm.out)); go_simp; try with_reducible rfl)
              simp only [Act.put, List.setIfInBounds_toArray, List.set_cons_zero, List.set_cons_succ]
              refine wpAnyH_take (i := 2) (oi := ⟨_, _, _, _, _, _⟩) (v := ?v3) rfl (by kernel_rfl) (by kernel_rfl) (by kernel_rfl) (fun _ _ _ h => h) ?y3 hS ?_
              case y3 => first | (refine Or.inr ⟨by rfl, ?_⟩; with_reducible rfl) | (refine Or.inl ⟨by rfl, ?_⟩; intro wS hSw; obtain ⟨q0, q1⟩ := HE.out wS (HB.out.trans (hSw.mono HBm.out)); obtain ⟨q2, q3⟩ := HD.out wS (HB.out.trans (hSw.mono HBm.out)); go_simp; try with_reducible rfl)
              simp only [Act.put, List.setIfInBounds_toArray, List.set_cons_zero, List.set_cons_succ]
              refine wpAnyH_take (i := 3) (oi := ⟨_, _, _, _, _, _⟩) (v := ?v4) rfl (by kernel_rfl) (by kernel_rfl) (by kernel_rfl) (fun _ _ _ h => h) ?y4 hS ?_
              case y4 => first | (refine Or.inr ⟨by rfl, ?_⟩; with_reducible rfl) | (refine Or.inl ⟨by rfl, ?_⟩; intro wS hSw; obtain ⟨q0, q1⟩ := HE.out wS (HB.out.trans (hSw.mono HBm.out)); obtain ⟨q2, q3⟩ := HD.out wS (HB.out.trans (hSw.mono HBm.out)); go_simp; try with_reducible rfl)
              simp only [Act.put, List.setIfInBounds_toArray, List.set_cons_zero, List.set_cons_succ]
              refine wpAnyH_take (i := 4) (oi := ⟨_, _, _, _, _, _⟩) (v := ?v5) rfl (by kernel_rfl) (by kernel_rfl) (by kernel_rfl) (fun _ _ _ h => h) ?y5 hS ?_
              case y5 => first | (refine Or.inr ⟨by rfl, ?_⟩; with_reducible rfl) | (refine Or.inl ⟨by rfl, ?_⟩; intro wS hSw; obtain ⟨q0, q1⟩ := HE.out wS (HB.out.trans (hSw.mono HBm.out)); obtain ⟨q2, q3⟩ := HD.out wS (HB.out.trans (hSw.mono HBm.out)); go_simp; try with_reducible rfl)
              simp only [Act.put, List.setIfInBounds_toArray, List.set_cons_zero, List.set_cons_succ]
              refine wpAnyH_take (i := 5) (oi := ⟨_, _, _, _, _, _⟩) (v := ?v6) rfl (by kernel_rfl) (by kernel_rfl) (by kernel_rfl) (fun _ _ _ h => h) ?y6 hS ?_
              case y6 => first | (refine Or.inr ⟨by rfl, ?_⟩; with_reducible rfl) | (refine Or.inl ⟨by rfl, ?_⟩; intro wS hSw; obtain ⟨q0, q1⟩ := HE.out wS (HB.out.trans (hSw.mono HBm.out)); obtain ⟨q2, q3⟩ := HD.out wS (HB.out.trans (hSw.mono HBm.out)); go_simp; try with_reducible rfl)
              simp only [Act.put, List.setIfInBounds_toArray, List.set_cons_zero, List.set_cons_succ]
              refine wpAnyH_take (i := 6) (oi := ⟨_, _, _, _, _, _⟩) (v := ?v7) rfl (by kernel_rfl) (by kernel_rfl) (by kernel_rfl) (fun _ _ _ h => h) ?y7 hS ?_
              case y7 => first | (refine Or.inr ⟨by rfl, ?_⟩; with_reducible rfl) | (refine Or.inl ⟨by rfl, ?_⟩; intro wS hSw; obtain ⟨q0, q1⟩ := HE.out wS (HB.out.trans (hSw.mono HBm.out)); obtain ⟨q2, q3⟩ := HD.out wS (HB.out.trans (hSw.mono HBm.out)); go_simp; try with_reducible rfl)
              simp only [Act.put, List.setIfInBounds_toArray, List.set_cons_zero, List.set_cons_succ]
              refine wpAnyH_take (i := 7) (oi := ⟨_, _, _, _, _, _⟩) (v := ?v8) rfl (by kernel_rfl) (by kernel_rfl) (by kernel_rfl) (fun _ _ _ h => h) ?y8 hS ?_
              case y8 => first | (refine Or.inr ⟨by rfl, ?_⟩; with_reducible rfl) | (refine Or.inl ⟨by rfl, ?_⟩; intro wS hSw; obtain ⟨q0, q1⟩ := HE.out wS (HB.out.trans (hSw.mono HBm.out)); obtain ⟨q2, q3⟩ := HD.out wS (HB.out.trans (hSw.mono HBm.out)); go_simp; try with_reducible rfl)
              simp only [Act.put, List.setIfInBounds_toArray, List.set_cons_zero, List.set_cons_succ]
              refine wpAnyH_ready (rs := [8, 12]) (by kernel_rfl) (by simp) ?_
              refine AllReadyH.cons (o := ⟨_, _, _, _, _, _⟩) rfl (fun K hK => ?_) (AllReadyH.cons (o := ⟨_, _, _, _, _, _⟩) rfl (fun K hK => ?_) AllReadyH.nil)
              · go_simp
                refine (M1.out _).mono ?_
                rintro e wx ⟨rfl, hb⟩
                replace hS := hS.trans (hb.mono (HSz.out _ hS))
                clear hb
                go_wp2_with fail
                refine hK.out _ _ hS (fun _ => ?_)
                clear hK K
                try simp only [Act.put, List.setIfInBounds_toArray, List.set_cons_zero, List.set_cons_succ]
                refine wpAnyH_take (i := 9) (oi := ⟨_, _, _, _, _, _⟩) (v := ?v9) rfl (by kernel_rfl) (by kernel_rfl) (by kernel_rfl) (fun _ _ _ h => h) ?y9 hS ?_
                case y9 => first | (refine Or.inr ⟨by rfl, ?_⟩; with_reducible rfl) | (refine Or.inl ⟨by rfl, ?_⟩; intro wS hSw; go_simp; try with_reducible rfl)
                simp only [Act.put, List.setIfInBounds_toArray, List.set_cons_zero, List.set_cons_succ]
                refine wpAnyH_take (i := 10) (oi := ⟨_, _, _, _, _, _⟩) (v := ?v10) rfl (by kernel_rfl) (by kernel_rfl) (by kernel_rfl) (fun _ _ _ h => h) ?y10 hS ?_
                case y10 => first | (refine Or.inr ⟨by rfl, ?_⟩; with_reducible rfl) | (refine Or.inl ⟨by rfl, ?_⟩; intro wS hSw; go_simp; try with_reducible rfl)
                simp only [Act.put, List.setIfInBounds_toArray, List.set_cons_zero, List.set_cons_succ]
                refine wpAnyH_take (i := 11) (oi := ⟨_, _, _, _, _, _⟩) (v := ?v11) rfl (by kernel_rfl) (by kernel_rfl) (by kernel_rfl) (fun _ _ _ h => h) ?y11 hS ?_
                case y11 => first | (refine Or.inr ⟨by rfl, ?_⟩; with_reducible rfl) | (refine Or.inl ⟨by rfl, ?_⟩; intro wS hSw; go_simp; try with_reducible rfl)
                simp only [Act.put, List.setIfInBounds_toArray, List.set_cons_zero, List.set_cons_succ]
                refine wpAnyH_ready (rs := [12]) (by kernel_rfl) (by simp) ?_
                refine AllReadyH.cons (o := ⟨_, _, _, _, _, _⟩) rfl (fun K hK => ?_) AllReadyH.nil
                go_simp
                refine hK.out _ _ (hS.alloc (HSz.out _ hS) _) (fun hS1 => ?_)
                clear hK K
                try simp only [Act.put, List.setIfInBounds_toArray, List.set_cons_zero, List.set_cons_succ]
                have hx := (one_new wx (.cells #[.int .i64 0, .int .i64 0] 23 (0, 0))).2
                have hle := HSz.out _ hS
                obtain ⟨Y, hY⟩ : ∃ Y, Y = wx.heap.size := ⟨_, rfl⟩
                have HYl := Lib.hid (show B0 ≤ Y from by rw [hY]; exact hle)
                rw [← hY] at hx ⊢
                refine gen_any2 (S2 := fun u => Below B0 wr u ∧ u.heap[Y]? = some (.cells #[.int .i64 0, .int .i64 0] 23 (0, 0))) ⟨hS1, hx⟩ (fun wy hh => ?_)
                clear hS hS1 hx hle hY
                obtain ⟨hS, hx⟩ := hh
                have HX := Lib.hid hx
                clear hx
                refine wpAnyH_ready (rs := [13]) (by kernel_rfl) (by simp) ?_
                refine AllReadyH.cons (o := ⟨_, _, _, _, _, _⟩) rfl (fun K hK => ?_) AllReadyH.nil
                obtain ⟨y0, y1⟩ := two_box HX.out
                obtain ⟨f0, f1⟩ := two_froz HX.out
                obtain ⟨s2, hs2⟩ := set2 HX.out (.int .i64 mf) (.int .i64 mt)
                have HS2 := Lib.hid s2
                have HB2 := Lib.hid (hS.trans (hs2.below (HSz.out _ hS) (fun k e => by have := HYl.out; omega)))
                clear s2 hs2
                go_simp
                refine hK.out _ _ HB2.out (fun _ => ?_)
                clear hK K
                try simp only [Act.put, List.setIfInBounds_toArray, List.set_cons_zero, List.set_cons_succ]
                replace hS := HB2.out
                refine wpAnyH_take (i := 14) (oi := ⟨_, _, _, _, _, _⟩) (v := ?v12) rfl (by kernel_rfl) (by kernel_rfl) (by kernel_rfl) (fun _ _ _ h => h) ?y12 hS ?_
                case y12 => first | (refine Or.inr ⟨by rfl, ?_⟩; with_reducible rfl) | (refine Or.inl ⟨by rfl, ?_⟩; intro wS hSw; go_simp; try with_reducible rfl)
                simp only [Act.put, List.setIfInBounds_toArray, List.set_cons_zero, List.set_cons_succ]
                refine wpAnyH_done (by kernel_rfl) ?_ _
                go_wp2
                go_meet
                exact ⟨Y, rfl, rfl, HB.out.trans (HB2.out.mono HBm.out), HS2.out⟩
              · go_simp
                refine hK.out _ _ (hS.alloc (HSz.out _ hS) _) (fun hS1 => ?_)
                clear hK K
                try simp only [Act.put, List.setIfInBounds_toArray, List.set_cons_zero, List.set_cons_succ]
                have hx := (one_new wr (.cells #[.int .i64 0, .int .i64 0] 23 (0, 0))).2
                have hle := HSz.out _ hS
                obtain ⟨Y, hY⟩ : ∃ Y, Y = wr.heap.size := ⟨_, rfl⟩
                have HYl := Lib.hid (show B0 ≤ Y from by rw [hY]; exact hle)
                rw [← hY] at hx ⊢
                refine gen_any2 (S2 := fun u => Below B0 wr u ∧ u.heap[Y]? = some (.cells #[.int .i64 0, .int .i64 0] 23 (0, 0))) ⟨hS1, hx⟩ (fun wy hh => ?_)
                clear hS hS1 hx hle hY
                obtain ⟨hS, hx⟩ := hh
                have HX := Lib.hid hx
                clear hx
                refine wpAnyH_ready (rs := [8]) (by kernel_rfl) (by simp) ?_
                refine AllReadyH.cons (o := ⟨_, _, _, _, _, _⟩) rfl (fun K hK => ?_) AllReadyH.nil
                go_simp
                refine (M1.out wy).mono ?_
                rintro e wx ⟨rfl, hb⟩
                have hx := (hb.block _ (lt_of_block HX.out)).trans HX.out
                replace hS := hS.trans (hb.mono (HSz.out _ hS))
                clear hb HX
                have HX := Lib.hid hx
                clear hx
                go_wp2_with fail
                refine hK.out _ _ hS (fun _ => ?_)
                clear hK K
                try simp only [Act.put, List.setIfInBounds_toArray, List.set_cons_zero, List.set_cons_succ]
                refine wpAnyH_take (i := 9) (oi := ⟨_, _, _, _, _, _⟩) (v := ?v13) rfl (by kernel_rfl) (by kernel_rfl) (by kernel_rfl) (fun _ _ _ h => h) ?y13 hS ?_
                case y13 => first | (refine Or.inr ⟨by rfl, ?_⟩; with_reducible rfl) | (refine Or.inl ⟨by rfl, ?_⟩; intro wS hSw; go_simp; try with_reducible rfl)
                simp only [Act.put, List.setIfInBounds_toArray, List.set_cons_zero, List.set_cons_succ]
                refine wpAnyH_take (i := 10) (oi := ⟨_, _, _, _, _, _⟩) (v := ?v14) rfl (by kernel_rfl) (by kernel_rfl) (by kernel_rfl) (fun _ _ _ h => h) ?y14 hS ?_
                case y14 => first | (refine Or.inr ⟨by rfl, ?_⟩; with_reducible rfl) | (refine Or.inl ⟨by rfl, ?_⟩; intro wS hSw; go_simp; try with_reducible rfl)
                simp only [Act.put, List.setIfInBounds_toArray, List.set_cons_zero, List.set_cons_succ]
                refine wpAnyH_take (i := 11) (oi := ⟨_, _, _, _, _, _⟩) (v := ?v15) rfl (by kernel_rfl) (by kernel_rfl) (by kernel_rfl) (fun _ _ _ h => h) ?y15 hS ?_
                case y15 => first | (refine Or.inr ⟨by rfl, ?_⟩; with_reducible rfl) | (refine Or.inl ⟨by rfl, ?_⟩; intro wS hSw; go_simp; try with_reducible rfl)
                simp only [Act.put, List.setIfInBounds_toArray, List.set_cons_zero, List.set_cons_succ]
                refine wpAnyH_ready (rs := [13]) (by kernel_rfl) (by simp) ?_
                refine AllReadyH.cons (o := ⟨_, _, _, _, _, _⟩) rfl (fun K hK => ?_) AllReadyH.nil
                obtain ⟨y0, y1⟩ := two_box HX.out
                obtain ⟨f0, f1⟩ := two_froz HX.out
                obtain ⟨s2, hs2⟩ := set2 HX.out (.int .i64 mf) (.int .i64 mt)
                have HS2 := Lib.hid s2
                have HB2 := Lib.hid (hS.trans (hs2.below (HSz.out _ hS) (fun k e => by have := HYl.out; omega)))
                clear s2 hs2
                go_simp
                refine hK.out _ _ HB2.out (fun _ => ?_)
                clear hK K
                try simp only [Act.put, List.setIfInBounds_toArray, List.set_cons_zero, List.set_cons_succ]
                replace hS := HB2.out
                refine wpAnyH_take (i := 14) (oi := ⟨_, _, _, _, _, _⟩) (v := ?v16) rfl (by kernel_rfl) (by kernel_rfl) (by kernel_rfl) (fun _ _ _ h => h) ?y16 hS ?_
                case y16 => first | (refine Or.inr ⟨by rfl, ?_⟩; with_reducible rfl) | (refine Or.inl ⟨by rfl, ?_⟩; intro wS hSw; go_simp; try with_reducible rfl)
                simp only [Act.put, List.setIfInBounds_toArray, List.set_cons_zero, List.set_cons_succ]
                refine wpAnyH_done (by kernel_rfl) ?_ _
                go_wp2
                go_meet
                exact ⟨Y, rfl, rfl, HB.out.trans (HB2.out.mono HBm.out), HS2.out⟩
            case rest =>
              obtain ⟨Y, rfl, rfl, hb1, hy⟩ := hcut
              have HB1 := Lib.hid hb1
              clear e0 e1 d0 d1 HB M1
              obtain ⟨e0, e1⟩ := HE.out wc HB1.out
              obtain ⟨d0, d1⟩ := HD.out wc HB1.out
              obtain ⟨y0, y1⟩ := two_box hy
              clear hb1 hy
              go_upto_region 10 with (fail)
              go_cut [65] (fun y w1 => y = .bool (!apartS ⟨fr, tz⟩ ⟨ofr, otz⟩) ∧ Hid (Below w.heap.size w w1))
              case first =>
                have HDr := Lib.hid (Below.refl wc.heap.size wc).drew
                have L1 := Lib.hid (lift_below (w := wc) K1.out)
                have L2 := Lib.hid (lift_below (w := wc) K2.out)
                have L3 := Lib.hid (lift_below (w := wc) K3.out)
                clear K1 K2 K3
                cases q1
                · cases q2
                  · cases is
                    · refine wp_region_held_drew (S := fun u => Below wc.heap.size wc u) (by kernel_rfl) HDr.out (fun hS => ?_)
                      refine wpAnyH_take (i := 0) (oi := ⟨_, _, _, _, _, _⟩) (v := ?v17) rfl (by kernel_rfl) (by kernel_rfl) (by kernel_rfl) (fun _ _ _ h => h) ?y17 hS ?_
                      case y17 => first | (refine Or.inr ⟨by rfl, ?_⟩; with_reducible rfl) | (refine Or.inl ⟨by rfl, ?_⟩; intro wS hSw; have q0 := cell_later hSw e0; have q1 := cell_later hSw e1; have q2 := cell_later hSw d0; have q3 := cell_later hSw d1; have q4 := cell_later hSw y0; have q5 := cell_later hSw y1; go_simp; try with_reducible rfl)
                      simp only [Act.put, List.setIfInBounds_toArray, List.set_cons_zero, List.set_cons_succ]
                      refine wpAnyH_take (i := 1) (oi := ⟨_, _, _, _, _, _⟩) (v := ?v18) rfl (by kernel_rfl) (by kernel_rfl) (by kernel_rfl) (fun _ _ _ h => h) ?y18 hS ?_
                      case y18 => first | (refine Or.inr ⟨by rfl, ?_⟩; with_reducible rfl) | (refine Or.inl ⟨by rfl, ?_⟩; intro wS hSw; have q0 := cell_later hSw e0; have q1 := cell_later hSw e1; have q2 := cell_later hSw d0; have q3 := cell_later hSw d1; have q4 := cell_later hSw y0; have q5 := cell_later hSw y1; go_simp; try with_reducible rfl)
                      simp only [Act.put, List.setIfInBounds_toArray, List.set_cons_zero, List.set_cons_succ]
                      refine wpAnyH_take (i := 2) (oi := ⟨_, _, _, _, _, _⟩) (v := ?v19) rfl (by kernel_rfl) (by kernel_rfl) (by kernel_rfl) (fun _ _ _ h => h) ?y19 hS ?_
                      case y19 => first | (refine Or.inr ⟨by rfl, ?_⟩; with_reducible rfl) | (refine Or.inl ⟨by rfl, ?_⟩; intro wS hSw; have q0 := cell_later hSw e0; have q1 := cell_later hSw e1; have q2 := cell_later hSw d0; have q3 := cell_later hSw d1; have q4 := cell_later hSw y0; have q5 := cell_later hSw y1; go_simp; try with_reducible rfl)
                      simp only [Act.put, List.setIfInBounds_toArray, List.set_cons_zero, List.set_cons_succ]
                      refine wpAnyH_take (i := 3) (oi := ⟨_, _, _, _, _, _⟩) (v := ?v20) rfl (by kernel_rfl) (by kernel_rfl) (by kernel_rfl) (fun _ _ _ h => h) ?y20 hS ?_
                      case y20 => first | (refine Or.inr ⟨by rfl, ?_⟩; with_reducible rfl) | (refine Or.inl ⟨by rfl, ?_⟩; intro wS hSw; have q0 := cell_later hSw e0; have q1 := cell_later hSw e1; have q2 := cell_later hSw d0; have q3 := cell_later hSw d1; have q4 := cell_later hSw y0; have q5 := cell_later hSw y1; go_simp; try with_reducible rfl)
                      simp only [Act.put, List.setIfInBounds_toArray, List.set_cons_zero, List.set_cons_succ]
                      refine wpAnyH_take (i := 4) (oi := ⟨_, _, _, _, _, _⟩) (v := ?v21) rfl (by kernel_rfl) (by kernel_rfl) (by kernel_rfl) (fun _ _ _ h => h) ?y21 hS ?_
                      case y21 => first | (refine Or.inr ⟨by rfl, ?_⟩; with_reducible rfl) | (refine Or.inl ⟨by rfl, ?_⟩; intro wS hSw; have q0 := cell_later hSw e0; have q1 := cell_later hSw e1; have q2 := cell_later hSw d0; have q3 := cell_later hSw d1; have q4 := cell_later hSw y0; have q5 := cell_later hSw y1; go_simp; try with_reducible rfl)
                      simp only [Act.put, List.setIfInBounds_toArray, List.set_cons_zero, List.set_cons_succ]
                      refine wpAnyH_take (i := 5) (oi := ⟨_, _, _, _, _, _⟩) (v := ?v22) rfl (by kernel_rfl) (by kernel_rfl) (by kernel_rfl) (fun _ _ _ h => h) ?y22 hS ?_
                      case y22 => first | (refine Or.inr ⟨by rfl, ?_⟩; with_reducible rfl) | (refine Or.inl ⟨by rfl, ?_⟩; intro wS hSw; have q0 := cell_later hSw e0; have q1 := cell_later hSw e1; have q2 := cell_later hSw d0; have q3 := cell_later hSw d1; have q4 := cell_later hSw y0; have q5 := cell_later hSw y1; go_simp; try with_reducible rfl)
                      simp only [Act.put, List.setIfInBounds_toArray, List.set_cons_zero, List.set_cons_succ]
                      refine wpAnyH_take (i := 6) (oi := ⟨_, _, _, _, _, _⟩) (v := ?v23) rfl (by kernel_rfl) (by kernel_rfl) (by kernel_rfl) (fun _ _ _ h => h) ?y23 hS ?_
                      case y23 => first | (refine Or.inr ⟨by rfl, ?_⟩; with_reducible rfl) | (refine Or.inl ⟨by rfl, ?_⟩; intro wS hSw; have q0 := cell_later hSw e0; have q1 := cell_later hSw e1; have q2 := cell_later hSw d0; have q3 := cell_later hSw d1; have q4 := cell_later hSw y0; have q5 := cell_later hSw y1; go_simp; try with_reducible rfl)
                      simp only [Act.put, List.setIfInBounds_toArray, List.set_cons_zero, List.set_cons_succ]
                      refine wpAnyH_take (i := 7) (oi := ⟨_, _, _, _, _, _⟩) (v := ?v24) rfl (by kernel_rfl) (by kernel_rfl) (by kernel_rfl) (fun _ _ _ h => h) ?y24 hS ?_
                      case y24 => first | (refine Or.inr ⟨by rfl, ?_⟩; with_reducible rfl) | (refine Or.inl ⟨by rfl, ?_⟩; intro wS hSw; have q0 := cell_later hSw e0; have q1 := cell_later hSw e1; have q2 := cell_later hSw d0; have q3 := cell_later hSw d1; have q4 := cell_later hSw y0; have q5 := cell_later hSw y1; go_simp; try with_reducible rfl)
                      simp only [Act.put, List.setIfInBounds_toArray, List.set_cons_zero, List.set_cons_succ]
                      refine wpAnyH_ready (rs := [8]) (by kernel_rfl) (by simp) ?_
                      refine AllReadyH.cons (o := ⟨_, _, _, _, _, _⟩) rfl (fun K hK => ?_) AllReadyH.nil
                      go_simp
                      refine (L1.out _ hS).mono ?_
                      rintro e wx ⟨rfl, hS⟩
                      go_wp2_with fail
                      refine hK.out _ _ hS (fun _ => ?_)
                      clear hK K
                      try simp only [Act.put, List.setIfInBounds_toArray, List.set_cons_zero, List.set_cons_succ]
                      refine wpAnyH_take (i := 9) (oi := ⟨_, _, _, _, _, _⟩) (v := ?v25) rfl (by kernel_rfl) (by kernel_rfl) (by kernel_rfl) (fun _ _ _ h => h) ?y25 hS ?_
                      case y25 => first | (refine Or.inr ⟨by rfl, ?_⟩; with_reducible rfl) | (refine Or.inl ⟨by rfl, ?_⟩; intro wS hSw; have q0 := cell_later hSw e0; have q1 := cell_later hSw e1; have q2 := cell_later hSw d0; have q3 := cell_later hSw d1; have q4 := cell_later hSw y0; have q5 := cell_later hSw y1; go_simp; try with_reducible rfl)
                      simp only [Act.put, List.setIfInBounds_toArray, List.set_cons_zero, List.set_cons_succ]
                      refine wpAnyH_take (i := 10) (oi := ⟨_, _, _, _, _, _⟩) (v := ?v26) rfl (by kernel_rfl) (by kernel_rfl) (by kernel_rfl) (fun _ _ _ h => h) ?y26 hS ?_
                      case y26 => first | (refine Or.inr ⟨by rfl, ?_⟩; with_reducible rfl) | (refine Or.inl ⟨by rfl, ?_⟩; intro wS hSw; have q0 := cell_later hSw e0; have q1 := cell_later hSw e1; have q2 := cell_later hSw d0; have q3 := cell_later hSw d1; have q4 := cell_later hSw y0; have q5 := cell_later hSw y1; go_simp; try with_reducible rfl)
                      simp only [Act.put, List.setIfInBounds_toArray, List.set_cons_zero, List.set_cons_succ]
                      refine wpAnyH_take (i := 11) (oi := ⟨_, _, _, _, _, _⟩) (v := ?v27) rfl (by kernel_rfl) (by kernel_rfl) (by kernel_rfl) (fun _ _ _ h => h) ?y27 hS ?_
                      case y27 => first | (refine Or.inr ⟨by rfl, ?_⟩; with_reducible rfl) | (refine Or.inl ⟨by rfl, ?_⟩; intro wS hSw; have q0 := cell_later hSw e0; have q1 := cell_later hSw e1; have q2 := cell_later hSw d0; have q3 := cell_later hSw d1; have q4 := cell_later hSw y0; have q5 := cell_later hSw y1; go_simp; try with_reducible rfl)
                      simp only [Act.put, List.setIfInBounds_toArray, List.set_cons_zero, List.set_cons_succ]
                      refine wpAnyH_take (i := 12) (oi := ⟨_, _, _, _, _, _⟩) (v := ?v28) rfl (by kernel_rfl) (by kernel_rfl) (by kernel_rfl) (fun _ _ _ h => h) ?y28 hS ?_
                      case y28 => first | (refine Or.inr ⟨by rfl, ?_⟩; with_reducible rfl) | (refine Or.inl ⟨by rfl, ?_⟩; intro wS hSw; have q0 := cell_later hSw e0; have q1 := cell_later hSw e1; have q2 := cell_later hSw d0; have q3 := cell_later hSw d1; have q4 := cell_later hSw y0; have q5 := cell_later hSw y1; go_simp; try with_reducible rfl)
                      simp only [Act.put, List.setIfInBounds_toArray, List.set_cons_zero, List.set_cons_succ]
                      refine wpAnyH_take (i := 13) (oi := ⟨_, _, _, _, _, _⟩) (v := ?v29) rfl (by kernel_rfl) (by kernel_rfl) (by kernel_rfl) (fun _ _ _ h => h) ?y29 hS ?_
                      case y29 => first | (refine Or.inr ⟨by rfl, ?_⟩; with_reducible rfl) | (refine Or.inl ⟨by rfl, ?_⟩; intro wS hSw; have q0 := cell_later hSw e0; have q1 := cell_later hSw e1; have q2 := cell_later hSw d0; have q3 := cell_later hSw d1; have q4 := cell_later hSw y0; have q5 := cell_later hSw y1; go_simp; try with_reducible rfl)
                      simp only [Act.put, List.setIfInBounds_toArray, List.set_cons_zero, List.set_cons_succ]
                      refine wpAnyH_take (i := 14) (oi := ⟨_, _, _, _, _, _⟩) (v := ?v30) rfl (by kernel_rfl) (by kernel_rfl) (by kernel_rfl) (fun _ _ _ h => h) ?y30 hS ?_
                      case y30 => first | (refine Or.inr ⟨by rfl, ?_⟩; with_reducible rfl) | (refine Or.inl ⟨by rfl, ?_⟩; intro wS hSw; have q0 := cell_later hSw e0; have q1 := cell_later hSw e1; have q2 := cell_later hSw d0; have q3 := cell_later hSw d1; have q4 := cell_later hSw y0; have q5 := cell_later hSw y1; go_simp; try with_reducible rfl)
                      simp only [Act.put, List.setIfInBounds_toArray, List.set_cons_zero, List.set_cons_succ]
                      refine wpAnyH_take (i := 15) (oi := ⟨_, _, _, _, _, _⟩) (v := ?v31) rfl (by kernel_rfl) (by kernel_rfl) (by kernel_rfl) (fun _ _ _ h => h) ?y31 hS ?_
                      case y31 => first | (refine Or.inr ⟨by rfl, ?_⟩; with_reducible rfl) | (refine Or.inl ⟨by rfl, ?_⟩; intro wS hSw; have q0 := cell_later hSw e0; have q1 := cell_later hSw e1; have q2 := cell_later hSw d0; have q3 := cell_later hSw d1; have q4 := cell_later hSw y0; have q5 := cell_later hSw y1; go_simp; try with_reducible rfl)
                      simp only [Act.put, List.setIfInBounds_toArray, List.set_cons_zero, List.set_cons_succ]
                      refine wpAnyH_take (i := 16) (oi := ⟨_, _, _, _, _, _⟩) (v := ?v32) rfl (by kernel_rfl) (by kernel_rfl) (by kernel_rfl) (fun _ _ _ h => h) ?y32 hS ?_
                      case y32 => first | (refine Or.inr ⟨by rfl, ?_⟩; with_reducible rfl) | (refine Or.inl ⟨by rfl, ?_⟩; intro wS hSw; have q0 := cell_later hSw e0; have q1 := cell_later hSw e1; have q2 := cell_later hSw d0; have q3 := cell_later hSw d1; have q4 := cell_later hSw y0; have q5 := cell_later hSw y1; go_simp; try with_reducible rfl)
                      simp only [Act.put, List.setIfInBounds_toArray, List.set_cons_zero, List.set_cons_succ]
                      refine wpAnyH_take (i := 17) (oi := ⟨_, _, _, _, _, _⟩) (v := ?v33) rfl (by kernel_rfl) (by kernel_rfl) (by kernel_rfl) (fun _ _ _ h => h) ?y33 hS ?_
                      case y33 => first | (refine Or.inr ⟨by rfl, ?_⟩; with_reducible rfl) | (refine Or.inl ⟨by rfl, ?_⟩; intro wS hSw; have q0 := cell_later hSw e0; have q1 := cell_later hSw e1; have q2 := cell_later hSw d0; have q3 := cell_later hSw d1; have q4 := cell_later hSw y0; have q5 := cell_later hSw y1; go_simp; try with_reducible rfl)
                      simp only [Act.put, List.setIfInBounds_toArray, List.set_cons_zero, List.set_cons_succ]
                      refine wpAnyH_take (i := 18) (oi := ⟨_, _, _, _, _, _⟩) (v := ?v34) rfl (by kernel_rfl) (by kernel_rfl) (by kernel_rfl) (fun _ _ _ h => h) ?y34 hS ?_
                      case y34 => first | (refine Or.inr ⟨by rfl, ?_⟩; with_reducible rfl) | (refine Or.inl ⟨by rfl, ?_⟩; intro wS hSw; have q0 := cell_later hSw e0; have q1 := cell_later hSw e1; have q2 := cell_later hSw d0; have q3 := cell_later hSw d1; have q4 := cell_later hSw y0; have q5 := cell_later hSw y1; go_simp; try with_reducible rfl)
                      simp only [Act.put, List.setIfInBounds_toArray, List.set_cons_zero, List.set_cons_succ]
                      refine wpAnyH_ready (rs := [19]) (by kernel_rfl) (by simp) ?_
                      refine AllReadyH.cons (o := ⟨_, _, _, _, _, _⟩) rfl (fun K hK => ?_) AllReadyH.nil
                      go_simp
                      refine (L2.out _ hS).mono ?_
                      rintro e wx ⟨rfl, hS⟩
                      go_wp2_with fail
                      refine hK.out _ _ hS (fun _ => ?_)
                      clear hK K
                      try simp only [Act.put, List.setIfInBounds_toArray, List.set_cons_zero, List.set_cons_succ]
                      refine wpAnyH_take (i := 20) (oi := ⟨_, _, _, _, _, _⟩) (v := ?v35) rfl (by kernel_rfl) (by kernel_rfl) (by kernel_rfl) (fun _ _ _ h => h) ?y35 hS ?_
                      case y35 => first | (refine Or.inr ⟨by rfl, ?_⟩; with_reducible rfl) | (refine Or.inl ⟨by rfl, ?_⟩; intro wS hSw; have q0 := cell_later hSw e0; have q1 := cell_later hSw e1; have q2 := cell_later hSw d0; have q3 := cell_later hSw d1; have q4 := cell_later hSw y0; have q5 := cell_later hSw y1; go_simp; try with_reducible rfl)
                      simp only [Act.put, List.setIfInBounds_toArray, List.set_cons_zero, List.set_cons_succ]
                      refine wpAnyH_take (i := 21) (oi := ⟨_, _, _, _, _, _⟩) (v := ?v36) rfl (by kernel_rfl) (by kernel_rfl) (by kernel_rfl) (fun _ _ _ h => h) ?y36 hS ?_
                      case y36 => first | (refine Or.inr ⟨by rfl, ?_⟩; with_reducible rfl) | (refine Or.inl ⟨by rfl, ?_⟩; intro wS hSw; have q0 := cell_later hSw e0; have q1 := cell_later hSw e1; have q2 := cell_later hSw d0; have q3 := cell_later hSw d1; have q4 := cell_later hSw y0; have q5 := cell_later hSw y1; go_simp; try with_reducible rfl)
                      simp only [Act.put, List.setIfInBounds_toArray, List.set_cons_zero, List.set_cons_succ]
                      refine wpAnyH_take (i := 22) (oi := ⟨_, _, _, _, _, _⟩) (v := ?v37) rfl (by kernel_rfl) (by kernel_rfl) (by kernel_rfl) (fun _ _ _ h => h) ?y37 hS ?_
                      case y37 => first | (refine Or.inr ⟨by rfl, ?_⟩; with_reducible rfl) | (refine Or.inl ⟨by rfl, ?_⟩; intro wS hSw; have q0 := cell_later hSw e0; have q1 := cell_later hSw e1; have q2 := cell_later hSw d0; have q3 := cell_later hSw d1; have q4 := cell_later hSw y0; have q5 := cell_later hSw y1; go_simp; try with_reducible rfl)
                      simp only [Act.put, List.setIfInBounds_toArray, List.set_cons_zero, List.set_cons_succ]
                      refine wpAnyH_take (i := 23) (oi := ⟨_, _, _, _, _, _⟩) (v := ?v38) rfl (by kernel_rfl) (by kernel_rfl) (by kernel_rfl) (fun _ _ _ h => h) ?y38 hS ?_
                      case y38 => first | (refine Or.inr ⟨by rfl, ?_⟩; with_reducible rfl) | (refine Or.inl ⟨by rfl, ?_⟩; intro wS hSw; have q0 := cell_later hSw e0; have q1 := cell_later hSw e1; have q2 := cell_later hSw d0; have q3 := cell_later hSw d1; have q4 := cell_later hSw y0; have q5 := cell_later hSw y1; go_simp; try with_reducible rfl)
                      simp only [Act.put, List.setIfInBounds_toArray, List.set_cons_zero, List.set_cons_succ]
                      refine wpAnyH_take (i := 24) (oi := ⟨_, _, _, _, _, _⟩) (v := ?v39) rfl (by kernel_rfl) (by kernel_rfl) (by kernel_rfl) (fun _ _ _ h => h) ?y39 hS ?_
                      case y39 => first | (refine Or.inr ⟨by rfl, ?_⟩; with_reducible rfl) | (refine Or.inl ⟨by rfl, ?_⟩; intro wS hSw; have q0 := cell_later hSw e0; have q1 := cell_later hSw e1; have q2 := cell_later hSw d0; have q3 := cell_later hSw d1; have q4 := cell_later hSw y0; have q5 := cell_later hSw y1; go_simp; try with_reducible rfl)
                      simp only [Act.put, List.setIfInBounds_toArray, List.set_cons_zero, List.set_cons_succ]
                      refine wpAnyH_take (i := 25) (oi := ⟨_, _, _, _, _, _⟩) (v := ?v40) rfl (by kernel_rfl) (by kernel_rfl) (by kernel_rfl) (fun _ _ _ h => h) ?y40 hS ?_
                      case y40 => first | (refine Or.inr ⟨by rfl, ?_⟩; with_reducible rfl) | (refine Or.inl ⟨by rfl, ?_⟩; intro wS hSw; have q0 := cell_later hSw e0; have q1 := cell_later hSw e1; have q2 := cell_later hSw d0; have q3 := cell_later hSw d1; have q4 := cell_later hSw y0; have q5 := cell_later hSw y1; go_simp; try with_reducible rfl)
                      simp only [Act.put, List.setIfInBounds_toArray, List.set_cons_zero, List.set_cons_succ]
                      refine wpAnyH_take (i := 26) (oi := ⟨_, _, _, _, _, _⟩) (v := ?v41) rfl (by kernel_rfl) (by kernel_rfl) (by kernel_rfl) (fun _ _ _ h => h) ?y41 hS ?_
                      case y41 => first | (refine Or.inr ⟨by rfl, ?_⟩; with_reducible rfl) | (refine Or.inl ⟨by rfl, ?_⟩; intro wS hSw; have q0 := cell_later hSw e0; have q1 := cell_later hSw e1; have q2 := cell_later hSw d0; have q3 := cell_later hSw d1; have q4 := cell_later hSw y0; have q5 := cell_later hSw y1; go_simp; try with_reducible rfl)
                      simp only [Act.put, List.setIfInBounds_toArray, List.set_cons_zero, List.set_cons_succ]
                      refine wpAnyH_ready (rs := [27]) (by kernel_rfl) (by simp) ?_
                      refine AllReadyH.cons (o := ⟨_, _, _, _, _, _⟩) rfl (fun K hK => ?_) AllReadyH.nil
                      go_simp
                      refine hK.out _ _ hS (fun _ => ?_)
                      clear hK K
                      try simp only [Act.put, List.setIfInBounds_toArray, List.set_cons_zero, List.set_cons_succ]
                      refine wpAnyH_take (i := 28) (oi := ⟨_, _, _, _, _, _⟩) (v := ?v42) rfl (by kernel_rfl) (by kernel_rfl) (by kernel_rfl) (fun _ _ _ h => h) ?y42 hS ?_
                      case y42 => first | (refine Or.inr ⟨by rfl, ?_⟩; with_reducible rfl) | (refine Or.inl ⟨by rfl, ?_⟩; intro wS hSw; have q0 := cell_later hSw e0; have q1 := cell_later hSw e1; have q2 := cell_later hSw d0; have q3 := cell_later hSw d1; have q4 := cell_later hSw y0; have q5 := cell_later hSw y1; go_simp; try with_reducible rfl)
                      simp only [Act.put, List.setIfInBounds_toArray, List.set_cons_zero, List.set_cons_succ]
                      refine wpAnyH_take (i := 29) (oi := ⟨_, _, _, _, _, _⟩) (v := ?v43) rfl (by kernel_rfl) (by kernel_rfl) (by kernel_rfl) (fun _ _ _ h => h) ?y43 hS ?_
                      case y43 => first | (refine Or.inr ⟨by rfl, ?_⟩; with_reducible rfl) | (refine Or.inl ⟨by rfl, ?_⟩; intro wS hSw; have q0 := cell_later hSw e0; have q1 := cell_later hSw e1; have q2 := cell_later hSw d0; have q3 := cell_later hSw d1; have q4 := cell_later hSw y0; have q5 := cell_later hSw y1; go_simp; try with_reducible rfl)
                      simp only [Act.put, List.setIfInBounds_toArray, List.set_cons_zero, List.set_cons_succ]
                      refine wpAnyH_done (by kernel_rfl) ?_ _
                      have HBf := Lib.hid (HB1.out.trans (hS.mono HB1.out.size))
                      clear hS e0 e1 d0 d1 y0 y1
                      go_wp2
                      go_meet
                      exact ⟨by rw [HAp.out]; rfl, HBf⟩
                    · by_cases hz : z = 0
                      · have hz1 : ¬ (0 : Int) < z := by omega
                        refine wp_region_held_drew (S := fun u => Below wc.heap.size wc u) (by kernel_rfl) HDr.out (fun hS => ?_)
                        refine wpAnyH_take (i := 0) (oi := ⟨_, _, _, _, _, _⟩) (v := ?v44) rfl (by kernel_rfl) (by kernel_rfl) (by kernel_rfl) (fun _ _ _ h => h) ?y44 hS ?_
                        case y44 => first | (refine Or.inr ⟨by rfl, ?_⟩; with_reducible rfl) | (refine Or.inl ⟨by rfl, ?_⟩; intro wS hSw; have q0 := cell_later hSw e0; have q1 := cell_later hSw e1; have q2 := cell_later hSw d0; have q3 := cell_later hSw d1; have q4 := cell_later hSw y0; have q5 := cell_later hSw y1; go_simp; try with_reducible rfl)
                        simp only [Act.put, List.setIfInBounds_toArray, List.set_cons_zero, List.set_cons_succ]
                        refine wpAnyH_take (i := 1) (oi := ⟨_, _, _, _, _, _⟩) (v := ?v45) rfl (by kernel_rfl) (by kernel_rfl) (by kernel_rfl) (fun _ _ _ h => h) ?y45 hS ?_
                        case y45 => first | (refine Or.inr ⟨by rfl, ?_⟩; with_reducible rfl) | (refine Or.inl ⟨by rfl, ?_⟩; intro wS hSw; have q0 := cell_later hSw e0; have q1 := cell_later hSw e1; have q2 := cell_later hSw d0; have q3 := cell_later hSw d1; have q4 := cell_later hSw y0; have q5 := cell_later hSw y1; go_simp; try with_reducible rfl)
                        simp only [Act.put, List.setIfInBounds_toArray, List.set_cons_zero, List.set_cons_succ]
                        refine wpAnyH_take (i := 2) (oi := ⟨_, _, _, _, _, _⟩) (v := ?v46) rfl (by kernel_rfl) (by kernel_rfl) (by kernel_rfl) (fun _ _ _ h => h) ?y46 hS ?_
                        case y46 => first | (refine Or.inr ⟨by rfl, ?_⟩; with_reducible rfl) | (refine Or.inl ⟨by rfl, ?_⟩; intro wS hSw; have q0 := cell_later hSw e0; have q1 := cell_later hSw e1; have q2 := cell_later hSw d0; have q3 := cell_later hSw d1; have q4 := cell_later hSw y0; have q5 := cell_later hSw y1; go_simp; try with_reducible rfl)
                        simp only [Act.put, List.setIfInBounds_toArray, List.set_cons_zero, List.set_cons_succ]
                        refine wpAnyH_take (i := 3) (oi := ⟨_, _, _, _, _, _⟩) (v := ?v47) rfl (by kernel_rfl) (by kernel_rfl) (by kernel_rfl) (fun _ _ _ h => h) ?y47 hS ?_
                        case y47 => first | (refine Or.inr ⟨by rfl, ?_⟩; with_reducible rfl) | (refine Or.inl ⟨by rfl, ?_⟩; intro wS hSw; have q0 := cell_later hSw e0; have q1 := cell_later hSw e1; have q2 := cell_later hSw d0; have q3 := cell_later hSw d1; have q4 := cell_later hSw y0; have q5 := cell_later hSw y1; go_simp; try with_reducible rfl)
                        simp only [Act.put, List.setIfInBounds_toArray, List.set_cons_zero, List.set_cons_succ]
                        refine wpAnyH_take (i := 4) (oi := ⟨_, _, _, _, _, _⟩) (v := ?v48) rfl (by kernel_rfl) (by kernel_rfl) (by kernel_rfl) (fun _ _ _ h => h) ?y48 hS ?_
                        case y48 => first | (refine Or.inr ⟨by rfl, ?_⟩; with_reducible rfl) | (refine Or.inl ⟨by rfl, ?_⟩; intro wS hSw; have q0 := cell_later hSw e0; have q1 := cell_later hSw e1; have q2 := cell_later hSw d0; have q3 := cell_later hSw d1; have q4 := cell_later hSw y0; have q5 := cell_later hSw y1; go_simp; try with_reducible rfl)
                        simp only [Act.put, List.setIfInBounds_toArray, List.set_cons_zero, List.set_cons_succ]
                        refine wpAnyH_take (i := 5) (oi := ⟨_, _, _, _, _, _⟩) (v := ?v49) rfl (by kernel_rfl) (by kernel_rfl) (by kernel_rfl) (fun _ _ _ h => h) ?y49 hS ?_
                        case y49 => first | (refine Or.inr ⟨by rfl, ?_⟩; with_reducible rfl) | (refine Or.inl ⟨by rfl, ?_⟩; intro wS hSw; have q0 := cell_later hSw e0; have q1 := cell_later hSw e1; have q2 := cell_later hSw d0; have q3 := cell_later hSw d1; have q4 := cell_later hSw y0; have q5 := cell_later hSw y1; go_simp; try with_reducible rfl)
                        simp only [Act.put, List.setIfInBounds_toArray, List.set_cons_zero, List.set_cons_succ]
                        refine wpAnyH_take (i := 6) (oi := ⟨_, _, _, _, _, _⟩) (v := ?v50) rfl (by kernel_rfl) (by kernel_rfl) (by kernel_rfl) (fun _ _ _ h => h) ?y50 hS ?_
                        case y50 => first | (refine Or.inr ⟨by rfl, ?_⟩; with_reducible rfl) | (refine Or.inl ⟨by rfl, ?_⟩; intro wS hSw; have q0 := cell_later hSw e0; have q1 := cell_later hSw e1; have q2 := cell_later hSw d0; have q3 := cell_later hSw d1; have q4 := cell_later hSw y0; have q5 := cell_later hSw y1; go_simp; try with_reducible rfl)
                        simp only [Act.put, List.setIfInBounds_toArray, List.set_cons_zero, List.set_cons_succ]
                        refine wpAnyH_take (i := 7) (oi := ⟨_, _, _, _, _, _⟩) (v := ?v51) rfl (by kernel_rfl) (by kernel_rfl) (by kernel_rfl) (fun _ _ _ h => h) ?y51 hS ?_
                        case y51 => first | (refine Or.inr ⟨by rfl, ?_⟩; with_reducible rfl) | (refine Or.inl ⟨by rfl, ?_⟩; intro wS hSw; have q0 := cell_later hSw e0; have q1 := cell_later hSw e1; have q2 := cell_later hSw d0; have q3 := cell_later hSw d1; have q4 := cell_later hSw y0; have q5 := cell_later hSw y1; go_simp; try with_reducible rfl)
                        simp only [Act.put, List.setIfInBounds_toArray, List.set_cons_zero, List.set_cons_succ]
                        refine wpAnyH_ready (rs := [8]) (by kernel_rfl) (by simp) ?_
                        refine AllReadyH.cons (o := ⟨_, _, _, _, _, _⟩) rfl (fun K hK => ?_) AllReadyH.nil
                        go_simp
                        refine (L1.out _ hS).mono ?_
                        rintro e wx ⟨rfl, hS⟩
                        go_wp2_with fail
                        refine hK.out _ _ hS (fun _ => ?_)
                        clear hK K
                        try simp only [Act.put, List.setIfInBounds_toArray, List.set_cons_zero, List.set_cons_succ]
                        refine wpAnyH_take (i := 9) (oi := ⟨_, _, _, _, _, _⟩) (v := ?v52) rfl (by kernel_rfl) (by kernel_rfl) (by kernel_rfl) (fun _ _ _ h => h) ?y52 hS ?_
                        case y52 => first | (refine Or.inr ⟨by rfl, ?_⟩; with_reducible rfl) | (refine Or.inl ⟨by rfl, ?_⟩; intro wS hSw; have q0 := cell_later hSw e0; have q1 := cell_later hSw e1; have q2 := cell_later hSw d0; have q3 := cell_later hSw d1; have q4 := cell_later hSw y0; have q5 := cell_later hSw y1; go_simp; try with_reducible rfl)
                        simp only [Act.put, List.setIfInBounds_toArray, List.set_cons_zero, List.set_cons_succ]
                        refine wpAnyH_take (i := 10) (oi := ⟨_, _, _, _, _, _⟩) (v := ?v53) rfl (by kernel_rfl) (by kernel_rfl) (by kernel_rfl) (fun _ _ _ h => h) ?y53 hS ?_
                        case y53 => first | (refine Or.inr ⟨by rfl, ?_⟩; with_reducible rfl) | (refine Or.inl ⟨by rfl, ?_⟩; intro wS hSw; have q0 := cell_later hSw e0; have q1 := cell_later hSw e1; have q2 := cell_later hSw d0; have q3 := cell_later hSw d1; have q4 := cell_later hSw y0; have q5 := cell_later hSw y1; go_simp; try with_reducible rfl)
                        simp only [Act.put, List.setIfInBounds_toArray, List.set_cons_zero, List.set_cons_succ]
                        refine wpAnyH_take (i := 11) (oi := ⟨_, _, _, _, _, _⟩) (v := ?v54) rfl (by kernel_rfl) (by kernel_rfl) (by kernel_rfl) (fun _ _ _ h => h) ?y54 hS ?_
                        case y54 => first | (refine Or.inr ⟨by rfl, ?_⟩; with_reducible rfl) | (refine Or.inl ⟨by rfl, ?_⟩; intro wS hSw; have q0 := cell_later hSw e0; have q1 := cell_later hSw e1; have q2 := cell_later hSw d0; have q3 := cell_later hSw d1; have q4 := cell_later hSw y0; have q5 := cell_later hSw y1; go_simp; try with_reducible rfl)
                        simp only [Act.put, List.setIfInBounds_toArray, List.set_cons_zero, List.set_cons_succ]
                        refine wpAnyH_take (i := 12) (oi := ⟨_, _, _, _, _, _⟩) (v := ?v55) rfl (by kernel_rfl) (by kernel_rfl) (by kernel_rfl) (fun _ _ _ h => h) ?y55 hS ?_
                        case y55 => first | (refine Or.inr ⟨by rfl, ?_⟩; with_reducible rfl) | (refine Or.inl ⟨by rfl, ?_⟩; intro wS hSw; have q0 := cell_later hSw e0; have q1 := cell_later hSw e1; have q2 := cell_later hSw d0; have q3 := cell_later hSw d1; have q4 := cell_later hSw y0; have q5 := cell_later hSw y1; go_simp; try with_reducible rfl)
                        simp only [Act.put, List.setIfInBounds_toArray, List.set_cons_zero, List.set_cons_succ]
                        refine wpAnyH_take (i := 13) (oi := ⟨_, _, _, _, _, _⟩) (v := ?v56) rfl (by kernel_rfl) (by kernel_rfl) (by kernel_rfl) (fun _ _ _ h => h) ?y56 hS ?_
                        case y56 => first | (refine Or.inr ⟨by rfl, ?_⟩; with_reducible rfl) | (refine Or.inl ⟨by rfl, ?_⟩; intro wS hSw; have q0 := cell_later hSw e0; have q1 := cell_later hSw e1; have q2 := cell_later hSw d0; have q3 := cell_later hSw d1; have q4 := cell_later hSw y0; have q5 := cell_later hSw y1; go_simp; try with_reducible rfl)
                        simp only [Act.put, List.setIfInBounds_toArray, List.set_cons_zero, List.set_cons_succ]
                        refine wpAnyH_take (i := 14) (oi := ⟨_, _, _, _, _, _⟩) (v := ?v57) rfl (by kernel_rfl) (by kernel_rfl) (by kernel_rfl) (fun _ _ _ h => h) ?y57 hS ?_
                        case y57 => first | (refine Or.inr ⟨by rfl, ?_⟩; with_reducible rfl) | (refine Or.inl ⟨by rfl, ?_⟩; intro wS hSw; have q0 := cell_later hSw e0; have q1 := cell_later hSw e1; have q2 := cell_later hSw d0; have q3 := cell_later hSw d1; have q4 := cell_later hSw y0; have q5 := cell_later hSw y1; go_simp; try with_reducible rfl)
                        simp only [Act.put, List.setIfInBounds_toArray, List.set_cons_zero, List.set_cons_succ]
                        refine wpAnyH_take (i := 15) (oi := ⟨_, _, _, _, _, _⟩) (v := ?v58) rfl (by kernel_rfl) (by kernel_rfl) (by kernel_rfl) (fun _ _ _ h => h) ?y58 hS ?_
                        case y58 => first | (refine Or.inr ⟨by rfl, ?_⟩; with_reducible rfl) | (refine Or.inl ⟨by rfl, ?_⟩; intro wS hSw; have q0 := cell_later hSw e0; have q1 := cell_later hSw e1; have q2 := cell_later hSw d0; have q3 := cell_later hSw d1; have q4 := cell_later hSw y0; have q5 := cell_later hSw y1; go_simp; try with_reducible rfl)
                        simp only [Act.put, List.setIfInBounds_toArray, List.set_cons_zero, List.set_cons_succ]
                        refine wpAnyH_take (i := 16) (oi := ⟨_, _, _, _, _, _⟩) (v := ?v59) rfl (by kernel_rfl) (by kernel_rfl) (by kernel_rfl) (fun _ _ _ h => h) ?y59 hS ?_
                        case y59 => first | (refine Or.inr ⟨by rfl, ?_⟩; with_reducible rfl) | (refine Or.inl ⟨by rfl, ?_⟩; intro wS hSw; have q0 := cell_later hSw e0; have q1 := cell_later hSw e1; have q2 := cell_later hSw d0; have q3 := cell_later hSw d1; have q4 := cell_later hSw y0; have q5 := cell_later hSw y1; go_simp; try with_reducible rfl)
                        simp only [Act.put, List.setIfInBounds_toArray, List.set_cons_zero, List.set_cons_succ]
                        refine wpAnyH_take (i := 17) (oi := ⟨_, _, _, _, _, _⟩) (v := ?v60) rfl (by kernel_rfl) (by kernel_rfl) (by kernel_rfl) (fun _ _ _ h => h) ?y60 hS ?_
                        case y60 => first | (refine Or.inr ⟨by rfl, ?_⟩; with_reducible rfl) | (refine Or.inl ⟨by rfl, ?_⟩; intro wS hSw; have q0 := cell_later hSw e0; have q1 := cell_later hSw e1; have q2 := cell_later hSw d0; have q3 := cell_later hSw d1; have q4 := cell_later hSw y0; have q5 := cell_later hSw y1; go_simp; try with_reducible rfl)
                        simp only [Act.put, List.setIfInBounds_toArray, List.set_cons_zero, List.set_cons_succ]
                        refine wpAnyH_take (i := 18) (oi := ⟨_, _, _, _, _, _⟩) (v := ?v61) rfl (by kernel_rfl) (by kernel_rfl) (by kernel_rfl) (fun _ _ _ h => h) ?y61 hS ?_
                        case y61 => first | (refine Or.inr ⟨by rfl, ?_⟩; with_reducible rfl) | (refine Or.inl ⟨by rfl, ?_⟩; intro wS hSw; have q0 := cell_later hSw e0; have q1 := cell_later hSw e1; have q2 := cell_later hSw d0; have q3 := cell_later hSw d1; have q4 := cell_later hSw y0; have q5 := cell_later hSw y1; go_simp; try with_reducible rfl)
                        simp only [Act.put, List.setIfInBounds_toArray, List.set_cons_zero, List.set_cons_succ]
                        refine wpAnyH_ready (rs := [19]) (by kernel_rfl) (by simp) ?_
                        refine AllReadyH.cons (o := ⟨_, _, _, _, _, _⟩) rfl (fun K hK => ?_) AllReadyH.nil
                        go_simp
                        refine (L2.out _ hS).mono ?_
                        rintro e wx ⟨rfl, hS⟩
                        go_wp2_with fail
                        refine hK.out _ _ hS (fun _ => ?_)
                        clear hK K
                        try simp only [Act.put, List.setIfInBounds_toArray, List.set_cons_zero, List.set_cons_succ]
                        refine wpAnyH_take (i := 20) (oi := ⟨_, _, _, _, _, _⟩) (v := ?v62) rfl (by kernel_rfl) (by kernel_rfl) (by kernel_rfl) (fun _ _ _ h => h) ?y62 hS ?_
                        case y62 => first | (refine Or.inr ⟨by rfl, ?_⟩; with_reducible rfl) | (refine Or.inl ⟨by rfl, ?_⟩; intro wS hSw; have q0 := cell_later hSw e0; have q1 := cell_later hSw e1; have q2 := cell_later hSw d0; have q3 := cell_later hSw d1; have q4 := cell_later hSw y0; have q5 := cell_later hSw y1; go_simp; try with_reducible rfl)
                        simp only [Act.put, List.setIfInBounds_toArray, List.set_cons_zero, List.set_cons_succ]
                        refine wpAnyH_take (i := 21) (oi := ⟨_, _, _, _, _, _⟩) (v := ?v63) rfl (by kernel_rfl) (by kernel_rfl) (by kernel_rfl) (fun _ _ _ h => h) ?y63 hS ?_
                        case y63 => first | (refine Or.inr ⟨by rfl, ?_⟩; with_reducible rfl) | (refine Or.inl ⟨by rfl, ?_⟩; intro wS hSw; have q0 := cell_later hSw e0; have q1 := cell_later hSw e1; have q2 := cell_later hSw d0; have q3 := cell_later hSw d1; have q4 := cell_later hSw y0; have q5 := cell_later hSw y1; go_simp; try with_reducible rfl)
                        simp only [Act.put, List.setIfInBounds_toArray, List.set_cons_zero, List.set_cons_succ]
                        refine wpAnyH_take (i := 22) (oi := ⟨_, _, _, _, _, _⟩) (v := ?v64) rfl (by kernel_rfl) (by kernel_rfl) (by kernel_rfl) (fun _ _ _ h => h) ?y64 hS ?_
                        case y64 => first | (refine Or.inr ⟨by rfl, ?_⟩; with_reducible rfl) | (refine Or.inl ⟨by rfl, ?_⟩; intro wS hSw; have q0 := cell_later hSw e0; have q1 := cell_later hSw e1; have q2 := cell_later hSw d0; have q3 := cell_later hSw d1; have q4 := cell_later hSw y0; have q5 := cell_later hSw y1; go_simp; try with_reducible rfl)
                        simp only [Act.put, List.setIfInBounds_toArray, List.set_cons_zero, List.set_cons_succ]
                        refine wpAnyH_take (i := 23) (oi := ⟨_, _, _, _, _, _⟩) (v := ?v65) rfl (by kernel_rfl) (by kernel_rfl) (by kernel_rfl) (fun _ _ _ h => h) ?y65 hS ?_
                        case y65 => first | (refine Or.inr ⟨by rfl, ?_⟩; with_reducible rfl) | (refine Or.inl ⟨by rfl, ?_⟩; intro wS hSw; have q0 := cell_later hSw e0; have q1 := cell_later hSw e1; have q2 := cell_later hSw d0; have q3 := cell_later hSw d1; have q4 := cell_later hSw y0; have q5 := cell_later hSw y1; go_simp; try with_reducible rfl)
                        simp only [Act.put, List.setIfInBounds_toArray, List.set_cons_zero, List.set_cons_succ]
                        refine wpAnyH_take (i := 24) (oi := ⟨_, _, _, _, _, _⟩) (v := ?v66) rfl (by kernel_rfl) (by kernel_rfl) (by kernel_rfl) (fun _ _ _ h => h) ?y66 hS ?_
                        case y66 => first | (refine Or.inr ⟨by rfl, ?_⟩; with_reducible rfl) | (refine Or.inl ⟨by rfl, ?_⟩; intro wS hSw; have q0 := cell_later hSw e0; have q1 := cell_later hSw e1; have q2 := cell_later hSw d0; have q3 := cell_later hSw d1; have q4 := cell_later hSw y0; have q5 := cell_later hSw y1; go_simp; try with_reducible rfl)
                        simp only [Act.put, List.setIfInBounds_toArray, List.set_cons_zero, List.set_cons_succ]
                        refine wpAnyH_take (i := 25) (oi := ⟨_, _, _, _, _, _⟩) (v := ?v67) rfl (by kernel_rfl) (by kernel_rfl) (by kernel_rfl) (fun _ _ _ h => h) ?y67 hS ?_
                        case y67 => first | (refine Or.inr ⟨by rfl, ?_⟩; with_reducible rfl) | (refine Or.inl ⟨by rfl, ?_⟩; intro wS hSw; have q0 := cell_later hSw e0; have q1 := cell_later hSw e1; have q2 := cell_later hSw d0; have q3 := cell_later hSw d1; have q4 := cell_later hSw y0; have q5 := cell_later hSw y1; go_simp; try with_reducible rfl)
                        simp only [Act.put, List.setIfInBounds_toArray, List.set_cons_zero, List.set_cons_succ]
                        refine wpAnyH_take (i := 26) (oi := ⟨_, _, _, _, _, _⟩) (v := ?v68) rfl (by kernel_rfl) (by kernel_rfl) (by kernel_rfl) (fun _ _ _ h => h) ?y68 hS ?_
                        case y68 => first | (refine Or.inr ⟨by rfl, ?_⟩; with_reducible rfl) | (refine Or.inl ⟨by rfl, ?_⟩; intro wS hSw; have q0 := cell_later hSw e0; have q1 := cell_later hSw e1; have q2 := cell_later hSw d0; have q3 := cell_later hSw d1; have q4 := cell_later hSw y0; have q5 := cell_later hSw y1; go_simp; try with_reducible rfl)
                        simp only [Act.put, List.setIfInBounds_toArray, List.set_cons_zero, List.set_cons_succ]
                        refine wpAnyH_ready (rs := [27]) (by kernel_rfl) (by simp) ?_
                        refine AllReadyH.cons (o := ⟨_, _, _, _, _, _⟩) rfl (fun K hK => ?_) AllReadyH.nil
                        go_simp
                        refine (L3.out _ hS).mono ?_
                        rintro e wx ⟨rfl, hS⟩
                        go_wp2_with fail
                        refine hK.out _ _ hS (fun _ => ?_)
                        clear hK K
                        try simp only [Act.put, List.setIfInBounds_toArray, List.set_cons_zero, List.set_cons_succ]
                        refine wpAnyH_take (i := 28) (oi := ⟨_, _, _, _, _, _⟩) (v := ?v69) rfl (by kernel_rfl) (by kernel_rfl) (by kernel_rfl) (fun _ _ _ h => h) ?y69 hS ?_
                        case y69 => first | (refine Or.inr ⟨by rfl, ?_⟩; with_reducible rfl) | (refine Or.inl ⟨by rfl, ?_⟩; intro wS hSw; have q0 := cell_later hSw e0; have q1 := cell_later hSw e1; have q2 := cell_later hSw d0; have q3 := cell_later hSw d1; have q4 := cell_later hSw y0; have q5 := cell_later hSw y1; go_simp; try with_reducible rfl)
                        simp only [Act.put, List.setIfInBounds_toArray, List.set_cons_zero, List.set_cons_succ]
                        refine wpAnyH_take (i := 29) (oi := ⟨_, _, _, _, _, _⟩) (v := ?v70) rfl (by kernel_rfl) (by kernel_rfl) (by kernel_rfl) (fun _ _ _ h => h) ?y70 hS ?_
                        case y70 => first | (refine Or.inr ⟨by rfl, ?_⟩; with_reducible rfl) | (refine Or.inl ⟨by rfl, ?_⟩; intro wS hSw; have q0 := cell_later hSw e0; have q1 := cell_later hSw e1; have q2 := cell_later hSw d0; have q3 := cell_later hSw d1; have q4 := cell_later hSw y0; have q5 := cell_later hSw y1; go_simp; try with_reducible rfl)
                        simp only [Act.put, List.setIfInBounds_toArray, List.set_cons_zero, List.set_cons_succ]
                        refine wpAnyH_done (by kernel_rfl) ?_ _
                        have HBf := Lib.hid (HB1.out.trans (hS.mono HB1.out.size))
                        clear hS e0 e1 d0 d1 y0 y1
                        go_wp2
                        go_meet
                        exact ⟨by rw [HAp.out]; subst hz; rfl, HBf⟩
                      · have hz1 : (0 : Int) < z := by omega
                        have HZ := Lib.hid (show (z == 0) = false from by simp; omega)
                        clear hz
                        refine wp_region_held_drew (S := fun u => Below wc.heap.size wc u) (by kernel_rfl) HDr.out (fun hS => ?_)
                        refine wpAnyH_take (i := 0) (oi := ⟨_, _, _, _, _, _⟩) (v := ?v71) rfl (by kernel_rfl) (by kernel_rfl) (by kernel_rfl) (fun _ _ _ h => h) ?y71 hS ?_
                        case y71 => first | (refine Or.inr ⟨by rfl, ?_⟩; with_reducible rfl) | (refine Or.inl ⟨by rfl, ?_⟩; intro wS hSw; have q0 := cell_later hSw e0; have q1 := cell_later hSw e1; have q2 := cell_later hSw d0; have q3 := cell_later hSw d1; have q4 := cell_later hSw y0; have q5 := cell_later hSw y1; go_simp; try with_reducible rfl)
                        simp only [Act.put, List.setIfInBounds_toArray, List.set_cons_zero, List.set_cons_succ]
                        refine wpAnyH_take (i := 1) (oi := ⟨_, _, _, _, _, _⟩) (v := ?v72) rfl (by kernel_rfl) (by kernel_rfl) (by kernel_rfl) (fun _ _ _ h => h) ?y72 hS ?_
                        case y72 => first | (refine Or.inr ⟨by rfl, ?_⟩; with_reducible rfl) | (refine Or.inl ⟨by rfl, ?_⟩; intro wS hSw; have q0 := cell_later hSw e0; have q1 := cell_later hSw e1; have q2 := cell_later hSw d0; have q3 := cell_later hSw d1; have q4 := cell_later hSw y0; have q5 := cell_later hSw y1; go_simp; try with_reducible rfl)
                        simp only [Act.put, List.setIfInBounds_toArray, List.set_cons_zero, List.set_cons_succ]
                        refine wpAnyH_take (i := 2) (oi := ⟨_, _, _, _, _, _⟩) (v := ?v73) rfl (by kernel_rfl) (by kernel_rfl) (by kernel_rfl) (fun _ _ _ h => h) ?y73 hS ?_
                        case y73 => first | (refine Or.inr ⟨by rfl, ?_⟩; with_reducible rfl) | (refine Or.inl ⟨by rfl, ?_⟩; intro wS hSw; have q0 := cell_later hSw e0; have q1 := cell_later hSw e1; have q2 := cell_later hSw d0; have q3 := cell_later hSw d1; have q4 := cell_later hSw y0; have q5 := cell_later hSw y1; go_simp; try with_reducible rfl)
                        simp only [Act.put, List.setIfInBounds_toArray, List.set_cons_zero, List.set_cons_succ]
                        refine wpAnyH_take (i := 3) (oi := ⟨_, _, _, _, _, _⟩) (v := ?v74) rfl (by kernel_rfl) (by kernel_rfl) (by kernel_rfl) (fun _ _ _ h => h) ?y74 hS ?_
                        case y74 => first | (refine Or.inr ⟨by rfl, ?_⟩; with_reducible rfl) | (refine Or.inl ⟨by rfl, ?_⟩; intro wS hSw; have q0 := cell_later hSw e0; have q1 := cell_later hSw e1; have q2 := cell_later hSw d0; have q3 := cell_later hSw d1; have q4 := cell_later hSw y0; have q5 := cell_later hSw y1; go_simp; try with_reducible rfl)
                        simp only [Act.put, List.setIfInBounds_toArray, List.set_cons_zero, List.set_cons_succ]
                        refine wpAnyH_take (i := 4) (oi := ⟨_, _, _, _, _, _⟩) (v := ?v75) rfl (by kernel_rfl) (by kernel_rfl) (by kernel_rfl) (fun _ _ _ h => h) ?y75 hS ?_
                        case y75 => first | (refine Or.inr ⟨by rfl, ?_⟩; with_reducible rfl) | (refine Or.inl ⟨by rfl, ?_⟩; intro wS hSw; have q0 := cell_later hSw e0; have q1 := cell_later hSw e1; have q2 := cell_later hSw d0; have q3 := cell_later hSw d1; have q4 := cell_later hSw y0; have q5 := cell_later hSw y1; go_simp; try with_reducible rfl)
                        simp only [Act.put, List.setIfInBounds_toArray, List.set_cons_zero, List.set_cons_succ]
                        refine wpAnyH_take (i := 5) (oi := ⟨_, _, _, _, _, _⟩) (v := ?v76) rfl (by kernel_rfl) (by kernel_rfl) (by kernel_rfl) (fun _ _ _ h => h) ?y76 hS ?_
                        case y76 => first | (refine Or.inr ⟨by rfl, ?_⟩; with_reducible rfl) | (refine Or.inl ⟨by rfl, ?_⟩; intro wS hSw; have q0 := cell_later hSw e0; have q1 := cell_later hSw e1; have q2 := cell_later hSw d0; have q3 := cell_later hSw d1; have q4 := cell_later hSw y0; have q5 := cell_later hSw y1; go_simp; try with_reducible rfl)
                        simp only [Act.put, List.setIfInBounds_toArray, List.set_cons_zero, List.set_cons_succ]
                        refine wpAnyH_take (i := 6) (oi := ⟨_, _, _, _, _, _⟩) (v := ?v77) rfl (by kernel_rfl) (by kernel_rfl) (by kernel_rfl) (fun _ _ _ h => h) ?y77 hS ?_
                        case y77 => first | (refine Or.inr ⟨by rfl, ?_⟩; with_reducible rfl) | (refine Or.inl ⟨by rfl, ?_⟩; intro wS hSw; have q0 := cell_later hSw e0; have q1 := cell_later hSw e1; have q2 := cell_later hSw d0; have q3 := cell_later hSw d1; have q4 := cell_later hSw y0; have q5 := cell_later hSw y1; go_simp; try with_reducible rfl)
                        simp only [Act.put, List.setIfInBounds_toArray, List.set_cons_zero, List.set_cons_succ]
                        refine wpAnyH_take (i := 7) (oi := ⟨_, _, _, _, _, _⟩) (v := ?v78) rfl (by kernel_rfl) (by kernel_rfl) (by kernel_rfl) (fun _ _ _ h => h) ?y78 hS ?_
                        case y78 => first | (refine Or.inr ⟨by rfl, ?_⟩; with_reducible rfl) | (refine Or.inl ⟨by rfl, ?_⟩; intro wS hSw; have q0 := cell_later hSw e0; have q1 := cell_later hSw e1; have q2 := cell_later hSw d0; have q3 := cell_later hSw d1; have q4 := cell_later hSw y0; have q5 := cell_later hSw y1; go_simp; try with_reducible rfl)
                        simp only [Act.put, List.setIfInBounds_toArray, List.set_cons_zero, List.set_cons_succ]
                        refine wpAnyH_ready (rs := [8]) (by kernel_rfl) (by simp) ?_
                        refine AllReadyH.cons (o := ⟨_, _, _, _, _, _⟩) rfl (fun K hK => ?_) AllReadyH.nil
                        go_simp
                        refine (L1.out _ hS).mono ?_
                        rintro e wx ⟨rfl, hS⟩
                        go_wp2_with fail
                        refine hK.out _ _ hS (fun _ => ?_)
                        clear hK K
                        try simp only [Act.put, List.setIfInBounds_toArray, List.set_cons_zero, List.set_cons_succ]
                        refine wpAnyH_take (i := 9) (oi := ⟨_, _, _, _, _, _⟩) (v := ?v79) rfl (by kernel_rfl) (by kernel_rfl) (by kernel_rfl) (fun _ _ _ h => h) ?y79 hS ?_
                        case y79 => first | (refine Or.inr ⟨by rfl, ?_⟩; with_reducible rfl) | (refine Or.inl ⟨by rfl, ?_⟩; intro wS hSw; have q0 := cell_later hSw e0; have q1 := cell_later hSw e1; have q2 := cell_later hSw d0; have q3 := cell_later hSw d1; have q4 := cell_later hSw y0; have q5 := cell_later hSw y1; go_simp; try with_reducible rfl)
                        simp only [Act.put, List.setIfInBounds_toArray, List.set_cons_zero, List.set_cons_succ]
                        refine wpAnyH_take (i := 10) (oi := ⟨_, _, _, _, _, _⟩) (v := ?v80) rfl (by kernel_rfl) (by kernel_rfl) (by kernel_rfl) (fun _ _ _ h => h) ?y80 hS ?_
                        case y80 => first | (refine Or.inr ⟨by rfl, ?_⟩; with_reducible rfl) | (refine Or.inl ⟨by rfl, ?_⟩; intro wS hSw; have q0 := cell_later hSw e0; have q1 := cell_later hSw e1; have q2 := cell_later hSw d0; have q3 := cell_later hSw d1; have q4 := cell_later hSw y0; have q5 := cell_later hSw y1; go_simp; try with_reducible rfl)
                        simp only [Act.put, List.setIfInBounds_toArray, List.set_cons_zero, List.set_cons_succ]
                        refine wpAnyH_take (i := 11) (oi := ⟨_, _, _, _, _, _⟩) (v := ?v81) rfl (by kernel_rfl) (by kernel_rfl) (by kernel_rfl) (fun _ _ _ h => h) ?y81 hS ?_
                        case y81 => first | (refine Or.inr ⟨by rfl, ?_⟩; with_reducible rfl) | (refine Or.inl ⟨by rfl, ?_⟩; intro wS hSw; have q0 := cell_later hSw e0; have q1 := cell_later hSw e1; have q2 := cell_later hSw d0; have q3 := cell_later hSw d1; have q4 := cell_later hSw y0; have q5 := cell_later hSw y1; go_simp; try with_reducible rfl)
                        simp only [Act.put, List.setIfInBounds_toArray, List.set_cons_zero, List.set_cons_succ]
                        refine wpAnyH_take (i := 12) (oi := ⟨_, _, _, _, _, _⟩) (v := ?v82) rfl (by kernel_rfl) (by kernel_rfl) (by kernel_rfl) (fun _ _ _ h => h) ?y82 hS ?_
                        case y82 => first | (refine Or.inr ⟨by rfl, ?_⟩; with_reducible rfl) | (refine Or.inl ⟨by rfl, ?_⟩; intro wS hSw; have q0 := cell_later hSw e0; have q1 := cell_later hSw e1; have q2 := cell_later hSw d0; have q3 := cell_later hSw d1; have q4 := cell_later hSw y0; have q5 := cell_later hSw y1; go_simp; try with_reducible rfl)
                        simp only [Act.put, List.setIfInBounds_toArray, List.set_cons_zero, List.set_cons_succ]
                        refine wpAnyH_take (i := 13) (oi := ⟨_, _, _, _, _, _⟩) (v := ?v83) rfl (by kernel_rfl) (by kernel_rfl) (by kernel_rfl) (fun _ _ _ h => h) ?y83 hS ?_
                        case y83 => first | (refine Or.inr ⟨by rfl, ?_⟩; with_reducible rfl) | (refine Or.inl ⟨by rfl, ?_⟩; intro wS hSw; have q0 := cell_later hSw e0; have q1 := cell_later hSw e1; have q2 := cell_later hSw d0; have q3 := cell_later hSw d1; have q4 := cell_later hSw y0; have q5 := cell_later hSw y1; go_simp; try with_reducible rfl)
                        simp only [Act.put, List.setIfInBounds_toArray, List.set_cons_zero, List.set_cons_succ]
                        refine wpAnyH_take (i := 14) (oi := ⟨_, _, _, _, _, _⟩) (v := ?v84) rfl (by kernel_rfl) (by kernel_rfl) (by kernel_rfl) (fun _ _ _ h => h) ?y84 hS ?_
                        case y84 => first | (refine Or.inr ⟨by rfl, ?_⟩; with_reducible rfl) | (refine Or.inl ⟨by rfl, ?_⟩; intro wS hSw; have q0 := cell_later hSw e0; have q1 := cell_later hSw e1; have q2 := cell_later hSw d0; have q3 := cell_later hSw d1; have q4 := cell_later hSw y0; have q5 := cell_later hSw y1; go_simp; try with_reducible rfl)
                        simp only [Act.put, List.setIfInBounds_toArray, List.set_cons_zero, List.set_cons_succ]
                        refine wpAnyH_take (i := 15) (oi := ⟨_, _, _, _, _, _⟩) (v := ?v85) rfl (by kernel_rfl) (by kernel_rfl) (by kernel_rfl) (fun _ _ _ h => h) ?y85 hS ?_
                        case y85 => first | (refine Or.inr ⟨by rfl, ?_⟩; with_reducible rfl) | (refine Or.inl ⟨by rfl, ?_⟩; intro wS hSw; have q0 := cell_later hSw e0; have q1 := cell_later hSw e1; have q2 := cell_later hSw d0; have q3 := cell_later hSw d1; have q4 := cell_later hSw y0; have q5 := cell_later hSw y1; go_simp; try with_reducible rfl)
                        simp only [Act.put, List.setIfInBounds_toArray, List.set_cons_zero, List.set_cons_succ]
                        refine wpAnyH_take (i := 16) (oi := ⟨_, _, _, _, _, _⟩) (v := ?v86) rfl (by kernel_rfl) (by kernel_rfl) (by kernel_rfl) (fun _ _ _ h => h) ?y86 hS ?_
                        case y86 => first | (refine Or.inr ⟨by rfl, ?_⟩; with_reducible rfl) | (refine Or.inl ⟨by rfl, ?_⟩; intro wS hSw; have q0 := cell_later hSw e0; have q1 := cell_later hSw e1; have q2 := cell_later hSw d0; have q3 := cell_later hSw d1; have q4 := cell_later hSw y0; have q5 := cell_later hSw y1; go_simp; try with_reducible rfl)
                        simp only [Act.put, List.setIfInBounds_toArray, List.set_cons_zero, List.set_cons_succ]
                        refine wpAnyH_take (i := 17) (oi := ⟨_, _, _, _, _, _⟩) (v := ?v87) rfl (by kernel_rfl) (by kernel_rfl) (by kernel_rfl) (fun _ _ _ h => h) ?y87 hS ?_
                        case y87 => first | (refine Or.inr ⟨by rfl, ?_⟩; with_reducible rfl) | (refine Or.inl ⟨by rfl, ?_⟩; intro wS hSw; have q0 := cell_later hSw e0; have q1 := cell_later hSw e1; have q2 := cell_later hSw d0; have q3 := cell_later hSw d1; have q4 := cell_later hSw y0; have q5 := cell_later hSw y1; go_simp; try with_reducible rfl)
                        simp only [Act.put, List.setIfInBounds_toArray, List.set_cons_zero, List.set_cons_succ]
                        refine wpAnyH_take (i := 18) (oi := ⟨_, _, _, _, _, _⟩) (v := ?v88) rfl (by kernel_rfl) (by kernel_rfl) (by kernel_rfl) (fun _ _ _ h => h) ?y88 hS ?_
                        case y88 => first | (refine Or.inr ⟨by rfl, ?_⟩; with_reducible rfl) | (refine Or.inl ⟨by rfl, ?_⟩; intro wS hSw; have q0 := cell_later hSw e0; have q1 := cell_later hSw e1; have q2 := cell_later hSw d0; have q3 := cell_later hSw d1; have q4 := cell_later hSw y0; have q5 := cell_later hSw y1; go_simp; try with_reducible rfl)
                        simp only [Act.put, List.setIfInBounds_toArray, List.set_cons_zero, List.set_cons_succ]
                        refine wpAnyH_ready (rs := [19]) (by kernel_rfl) (by simp) ?_
                        refine AllReadyH.cons (o := ⟨_, _, _, _, _, _⟩) rfl (fun K hK => ?_) AllReadyH.nil
                        go_simp
                        refine (L2.out _ hS).mono ?_
                        rintro e wx ⟨rfl, hS⟩
                        go_wp2_with fail
                        refine hK.out _ _ hS (fun _ => ?_)
                        clear hK K
                        try simp only [Act.put, List.setIfInBounds_toArray, List.set_cons_zero, List.set_cons_succ]
                        refine wpAnyH_take (i := 20) (oi := ⟨_, _, _, _, _, _⟩) (v := ?v89) rfl (by kernel_rfl) (by kernel_rfl) (by kernel_rfl) (fun _ _ _ h => h) ?y89 hS ?_
                        case y89 => first | (refine Or.inr ⟨by rfl, ?_⟩; with_reducible rfl) | (refine Or.inl ⟨by rfl, ?_⟩; intro wS hSw; have q0 := cell_later hSw e0; have q1 := cell_later hSw e1; have q2 := cell_later hSw d0; have q3 := cell_later hSw d1; have q4 := cell_later hSw y0; have q5 := cell_later hSw y1; go_simp; try with_reducible rfl)
                        simp only [Act.put, List.setIfInBounds_toArray, List.set_cons_zero, List.set_cons_succ]
                        refine wpAnyH_take (i := 21) (oi := ⟨_, _, _, _, _, _⟩) (v := ?v90) rfl (by kernel_rfl) (by kernel_rfl) (by kernel_rfl) (fun _ _ _ h => h) ?y90 hS ?_
                        case y90 => first | (refine Or.inr ⟨by rfl, ?_⟩; with_reducible rfl) | (refine Or.inl ⟨by rfl, ?_⟩; intro wS hSw; have q0 := cell_later hSw e0; have q1 := cell_later hSw e1; have q2 := cell_later hSw d0; have q3 := cell_later hSw d1; have q4 := cell_later hSw y0; have q5 := cell_later hSw y1; go_simp; try with_reducible rfl)
                        simp only [Act.put, List.setIfInBounds_toArray, List.set_cons_zero, List.set_cons_succ]
                        refine wpAnyH_take (i := 22) (oi := ⟨_, _, _, _, _, _⟩) (v := ?v91) rfl (by kernel_rfl) (by kernel_rfl) (by kernel_rfl) (fun _ _ _ h => h) ?y91 hS ?_
                        case y91 => first | (refine Or.inr ⟨by rfl, ?_⟩; with_reducible rfl) | (refine Or.inl ⟨by rfl, ?_⟩; intro wS hSw; have q0 := cell_later hSw e0; have q1 := cell_later hSw e1; have q2 := cell_later hSw d0; have q3 := cell_later hSw d1; have q4 := cell_later hSw y0; have q5 := cell_later hSw y1; go_simp; try with_reducible rfl)
                        simp only [Act.put, List.setIfInBounds_toArray, List.set_cons_zero, List.set_cons_succ]
                        refine wpAnyH_take (i := 23) (oi := ⟨_, _, _, _, _, _⟩) (v := ?v92) rfl (by kernel_rfl) (by kernel_rfl) (by kernel_rfl) (fun _ _ _ h => h) ?y92 hS ?_
                        case y92 => first | (refine Or.inr ⟨by rfl, ?_⟩; with_reducible rfl) | (refine Or.inl ⟨by rfl, ?_⟩; intro wS hSw; have q0 := cell_later hSw e0; have q1 := cell_later hSw e1; have q2 := cell_later hSw d0; have q3 := cell_later hSw d1; have q4 := cell_later hSw y0; have q5 := cell_later hSw y1; go_simp; try with_reducible rfl)
                        simp only [Act.put, List.setIfInBounds_toArray, List.set_cons_zero, List.set_cons_succ]
                        refine wpAnyH_take (i := 24) (oi := ⟨_, _, _, _, _, _⟩) (v := ?v93) rfl (by kernel_rfl) (by kernel_rfl) (by kernel_rfl) (fun _ _ _ h => h) ?y93 hS ?_
                        case y93 => first | (refine Or.inr ⟨by rfl, ?_⟩; with_reducible rfl) | (refine Or.inl ⟨by rfl, ?_⟩; intro wS hSw; have q0 := cell_later hSw e0; have q1 := cell_later hSw e1; have q2 := cell_later hSw d0; have q3 := cell_later hSw d1; have q4 := cell_later hSw y0; have q5 := cell_later hSw y1; go_simp; try with_reducible rfl)
                        simp only [Act.put, List.setIfInBounds_toArray, List.set_cons_zero, List.set_cons_succ]
                        refine wpAnyH_take (i := 25) (oi := ⟨_, _, _, _, _, _⟩) (v := ?v94) rfl (by kernel_rfl) (by kernel_rfl) (by kernel_rfl) (fun _ _ _ h => h) ?y94 hS ?_
                        case y94 => first | (refine Or.inr ⟨by rfl, ?_⟩; with_reducible rfl) | (refine Or.inl ⟨by rfl, ?_⟩; intro wS hSw; have q0 := cell_later hSw e0; have q1 := cell_later hSw e1; have q2 := cell_later hSw d0; have q3 := cell_later hSw d1; have q4 := cell_later hSw y0; have q5 := cell_later hSw y1; go_simp; try with_reducible rfl)
                        simp only [Act.put, List.setIfInBounds_toArray, List.set_cons_zero, List.set_cons_succ]
                        refine wpAnyH_take (i := 26) (oi := ⟨_, _, _, _, _, _⟩) (v := ?v95) rfl (by kernel_rfl) (by kernel_rfl) (by kernel_rfl) (fun _ _ _ h => h) ?y95 hS ?_
                        case y95 => first | (refine Or.inr ⟨by rfl, ?_⟩; with_reducible rfl) | (refine Or.inl ⟨by rfl, ?_⟩; intro wS hSw; have q0 := cell_later hSw e0; have q1 := cell_later hSw e1; have q2 := cell_later hSw d0; have q3 := cell_later hSw d1; have q4 := cell_later hSw y0; have q5 := cell_later hSw y1; go_simp; try with_reducible rfl)
                        simp only [Act.put, List.setIfInBounds_toArray, List.set_cons_zero, List.set_cons_succ]
                        refine wpAnyH_ready (rs := [27]) (by kernel_rfl) (by simp) ?_
                        refine AllReadyH.cons (o := ⟨_, _, _, _, _, _⟩) rfl (fun K hK => ?_) AllReadyH.nil
                        go_simp
                        refine (L3.out _ hS).mono ?_
                        rintro e wx ⟨rfl, hS⟩
                        go_wp2_with fail
                        refine hK.out _ _ hS (fun _ => ?_)
                        clear hK K
                        try simp only [Act.put, List.setIfInBounds_toArray, List.set_cons_zero, List.set_cons_succ]
                        refine wpAnyH_take (i := 28) (oi := ⟨_, _, _, _, _, _⟩) (v := ?v96) rfl (by kernel_rfl) (by kernel_rfl) (by kernel_rfl) (fun _ _ _ h => h) ?y96 hS ?_
                        case y96 => first | (refine Or.inr ⟨by rfl, ?_⟩; with_reducible rfl) | (refine Or.inl ⟨by rfl, ?_⟩; intro wS hSw; have q0 := cell_later hSw e0; have q1 := cell_later hSw e1; have q2 := cell_later hSw d0; have q3 := cell_later hSw d1; have q4 := cell_later hSw y0; have q5 := cell_later hSw y1; go_simp; try with_reducible rfl)
                        simp only [Act.put, List.setIfInBounds_toArray, List.set_cons_zero, List.set_cons_succ]
                        refine wpAnyH_take (i := 29) (oi := ⟨_, _, _, _, _, _⟩) (v := ?v97) rfl (by kernel_rfl) (by kernel_rfl) (by kernel_rfl) (fun _ _ _ h => h) ?y97 hS ?_
                        case y97 => first | (refine Or.inr ⟨by rfl, ?_⟩; with_reducible rfl) | (refine Or.inl ⟨by rfl, ?_⟩; intro wS hSw; have q0 := cell_later hSw e0; have q1 := cell_later hSw e1; have q2 := cell_later hSw d0; have q3 := cell_later hSw d1; have q4 := cell_later hSw y0; have q5 := cell_later hSw y1; go_simp; try with_reducible rfl)
                        simp only [Act.put, List.setIfInBounds_toArray, List.set_cons_zero, List.set_cons_succ]
                        refine wpAnyH_done (by kernel_rfl) ?_ _
                        have HBf := Lib.hid (HB1.out.trans (hS.mono HB1.out.size))
                        clear hS e0 e1 d0 d1 y0 y1
                        go_wp2
                        go_meet
                        exact ⟨by rw [HAp.out]; rw [HZ.out]; rfl, HBf⟩
                  · refine wp_region_held_drew (S := fun u => Below wc.heap.size wc u) (by kernel_rfl) HDr.out (fun hS => ?_)
                    refine wpAnyH_take (i := 0) (oi := ⟨_, _, _, _, _, _⟩) (v := ?v98) rfl (by kernel_rfl) (by kernel_rfl) (by kernel_rfl) (fun _ _ _ h => h) ?y98 hS ?_
                    case y98 => first | (refine Or.inr ⟨by rfl, ?_⟩; with_reducible rfl) | (refine Or.inl ⟨by rfl, ?_⟩; intro wS hSw; have q0 := cell_later hSw e0; have q1 := cell_later hSw e1; have q2 := cell_later hSw d0; have q3 := cell_later hSw d1; have q4 := cell_later hSw y0; have q5 := cell_later hSw y1; go_simp; try with_reducible rfl)
                    simp only [Act.put, List.setIfInBounds_toArray, List.set_cons_zero, List.set_cons_succ]
                    refine wpAnyH_take (i := 1) (oi := ⟨_, _, _, _, _, _⟩) (v := ?v99) rfl (by kernel_rfl) (by kernel_rfl) (by kernel_rfl) (fun _ _ _ h => h) ?y99 hS ?_
                    case y99 => first | (refine Or.inr ⟨by rfl, ?_⟩; with_reducible rfl) | (refine Or.inl ⟨by rfl, ?_⟩; intro wS hSw; have q0 := cell_later hSw e0; have q1 := cell_later hSw e1; have q2 := cell_later hSw d0; have q3 := cell_later hSw d1; have q4 := cell_later hSw y0; have q5 := cell_later hSw y1; go_simp; try with_reducible rfl)
                    simp only [Act.put, List.setIfInBounds_toArray, List.set_cons_zero, List.set_cons_succ]
                    refine wpAnyH_take (i := 2) (oi := ⟨_, _, _, _, _, _⟩) (v := ?v100) rfl (by kernel_rfl) (by kernel_rfl) (by kernel_rfl) (fun _ _ _ h => h) ?y100 hS ?_
                    case y100 => first | (refine Or.inr ⟨by rfl, ?_⟩; with_reducible rfl) | (refine Or.inl ⟨by rfl, ?_⟩; intro wS hSw; have q0 := cell_later hSw e0; have q1 := cell_later hSw e1; have q2 := cell_later hSw d0; have q3 := cell_later hSw d1; have q4 := cell_later hSw y0; have q5 := cell_later hSw y1; go_simp; try with_reducible rfl)
                    simp only [Act.put, List.setIfInBounds_toArray, List.set_cons_zero, List.set_cons_succ]
                    refine wpAnyH_take (i := 3) (oi := ⟨_, _, _, _, _, _⟩) (v := ?v101) rfl (by kernel_rfl) (by kernel_rfl) (by kernel_rfl) (fun _ _ _ h => h) ?y101 hS ?_
                    case y101 => first | (refine Or.inr ⟨by rfl, ?_⟩; with_reducible rfl) | (refine Or.inl ⟨by rfl, ?_⟩; intro wS hSw; have q0 := cell_later hSw e0; have q1 := cell_later hSw e1; have q2 := cell_later hSw d0; have q3 := cell_later hSw d1; have q4 := cell_later hSw y0; have q5 := cell_later hSw y1; go_simp; try with_reducible rfl)
                    simp only [Act.put, List.setIfInBounds_toArray, List.set_cons_zero, List.set_cons_succ]
                    refine wpAnyH_take (i := 4) (oi := ⟨_, _, _, _, _, _⟩) (v := ?v102) rfl (by kernel_rfl) (by kernel_rfl) (by kernel_rfl) (fun _ _ _ h => h) ?y102 hS ?_
                    case y102 => first | (refine Or.inr ⟨by rfl, ?_⟩; with_reducible rfl) | (refine Or.inl ⟨by rfl, ?_⟩; intro wS hSw; have q0 := cell_later hSw e0; have q1 := cell_later hSw e1; have q2 := cell_later hSw d0; have q3 := cell_later hSw d1; have q4 := cell_later hSw y0; have q5 := cell_later hSw y1; go_simp; try with_reducible rfl)
                    simp only [Act.put, List.setIfInBounds_toArray, List.set_cons_zero, List.set_cons_succ]
                    refine wpAnyH_take (i := 5) (oi := ⟨_, _, _, _, _, _⟩) (v := ?v103) rfl (by kernel_rfl) (by kernel_rfl) (by kernel_rfl) (fun _ _ _ h => h) ?y103 hS ?_
                    case y103 => first | (refine Or.inr ⟨by rfl, ?_⟩; with_reducible rfl) | (refine Or.inl ⟨by rfl, ?_⟩; intro wS hSw; have q0 := cell_later hSw e0; have q1 := cell_later hSw e1; have q2 := cell_later hSw d0; have q3 := cell_later hSw d1; have q4 := cell_later hSw y0; have q5 := cell_later hSw y1; go_simp; try with_reducible rfl)
                    simp only [Act.put, List.setIfInBounds_toArray, List.set_cons_zero, List.set_cons_succ]
                    refine wpAnyH_take (i := 6) (oi := ⟨_, _, _, _, _, _⟩) (v := ?v104) rfl (by kernel_rfl) (by kernel_rfl) (by kernel_rfl) (fun _ _ _ h => h) ?y104 hS ?_
                    case y104 => first | (refine Or.inr ⟨by rfl, ?_⟩; with_reducible rfl) | (refine Or.inl ⟨by rfl, ?_⟩; intro wS hSw; have q0 := cell_later hSw e0; have q1 := cell_later hSw e1; have q2 := cell_later hSw d0; have q3 := cell_later hSw d1; have q4 := cell_later hSw y0; have q5 := cell_later hSw y1; go_simp; try with_reducible rfl)
                    simp only [Act.put, List.setIfInBounds_toArray, List.set_cons_zero, List.set_cons_succ]
                    refine wpAnyH_take (i := 7) (oi := ⟨_, _, _, _, _, _⟩) (v := ?v105) rfl (by kernel_rfl) (by kernel_rfl) (by kernel_rfl) (fun _ _ _ h => h) ?y105 hS ?_
                    case y105 => first | (refine Or.inr ⟨by rfl, ?_⟩; with_reducible rfl) | (refine Or.inl ⟨by rfl, ?_⟩; intro wS hSw; have q0 := cell_later hSw e0; have q1 := cell_later hSw e1; have q2 := cell_later hSw d0; have q3 := cell_later hSw d1; have q4 := cell_later hSw y0; have q5 := cell_later hSw y1; go_simp; try with_reducible rfl)
                    simp only [Act.put, List.setIfInBounds_toArray, List.set_cons_zero, List.set_cons_succ]
                    refine wpAnyH_ready (rs := [8]) (by kernel_rfl) (by simp) ?_
                    refine AllReadyH.cons (o := ⟨_, _, _, _, _, _⟩) rfl (fun K hK => ?_) AllReadyH.nil
                    go_simp
                    refine (L1.out _ hS).mono ?_
                    rintro e wx ⟨rfl, hS⟩
                    go_wp2_with fail
                    refine hK.out _ _ hS (fun _ => ?_)
                    clear hK K
                    try simp only [Act.put, List.setIfInBounds_toArray, List.set_cons_zero, List.set_cons_succ]
                    refine wpAnyH_take (i := 9) (oi := ⟨_, _, _, _, _, _⟩) (v := ?v106) rfl (by kernel_rfl) (by kernel_rfl) (by kernel_rfl) (fun _ _ _ h => h) ?y106 hS ?_
                    case y106 => first | (refine Or.inr ⟨by rfl, ?_⟩; with_reducible rfl) | (refine Or.inl ⟨by rfl, ?_⟩; intro wS hSw; have q0 := cell_later hSw e0; have q1 := cell_later hSw e1; have q2 := cell_later hSw d0; have q3 := cell_later hSw d1; have q4 := cell_later hSw y0; have q5 := cell_later hSw y1; go_simp; try with_reducible rfl)
                    simp only [Act.put, List.setIfInBounds_toArray, List.set_cons_zero, List.set_cons_succ]
                    refine wpAnyH_take (i := 10) (oi := ⟨_, _, _, _, _, _⟩) (v := ?v107) rfl (by kernel_rfl) (by kernel_rfl) (by kernel_rfl) (fun _ _ _ h => h) ?y107 hS ?_
                    case y107 => first | (refine Or.inr ⟨by rfl, ?_⟩; with_reducible rfl) | (refine Or.inl ⟨by rfl, ?_⟩; intro wS hSw; have q0 := cell_later hSw e0; have q1 := cell_later hSw e1; have q2 := cell_later hSw d0; have q3 := cell_later hSw d1; have q4 := cell_later hSw y0; have q5 := cell_later hSw y1; go_simp; try with_reducible rfl)
                    simp only [Act.put, List.setIfInBounds_toArray, List.set_cons_zero, List.set_cons_succ]
                    refine wpAnyH_take (i := 11) (oi := ⟨_, _, _, _, _, _⟩) (v := ?v108) rfl (by kernel_rfl) (by kernel_rfl) (by kernel_rfl) (fun _ _ _ h => h) ?y108 hS ?_
                    case y108 => first | (refine Or.inr ⟨by rfl, ?_⟩; with_reducible rfl) | (refine Or.inl ⟨by rfl, ?_⟩; intro wS hSw; have q0 := cell_later hSw e0; have q1 := cell_later hSw e1; have q2 := cell_later hSw d0; have q3 := cell_later hSw d1; have q4 := cell_later hSw y0; have q5 := cell_later hSw y1; go_simp; try with_reducible rfl)
                    simp only [Act.put, List.setIfInBounds_toArray, List.set_cons_zero, List.set_cons_succ]
                    refine wpAnyH_take (i := 12) (oi := ⟨_, _, _, _, _, _⟩) (v := ?v109) rfl (by kernel_rfl) (by kernel_rfl) (by kernel_rfl) (fun _ _ _ h => h) ?y109 hS ?_
                    case y109 => first | (refine Or.inr ⟨by rfl, ?_⟩; with_reducible rfl) | (refine Or.inl ⟨by rfl, ?_⟩; intro wS hSw; have q0 := cell_later hSw e0; have q1 := cell_later hSw e1; have q2 := cell_later hSw d0; have q3 := cell_later hSw d1; have q4 := cell_later hSw y0; have q5 := cell_later hSw y1; go_simp; try with_reducible rfl)
                    simp only [Act.put, List.setIfInBounds_toArray, List.set_cons_zero, List.set_cons_succ]
                    refine wpAnyH_take (i := 13) (oi := ⟨_, _, _, _, _, _⟩) (v := ?v110) rfl (by kernel_rfl) (by kernel_rfl) (by kernel_rfl) (fun _ _ _ h => h) ?y110 hS ?_
                    case y110 => first | (refine Or.inr ⟨by rfl, ?_⟩; with_reducible rfl) | (refine Or.inl ⟨by rfl, ?_⟩; intro wS hSw; have q0 := cell_later hSw e0; have q1 := cell_later hSw e1; have q2 := cell_later hSw d0; have q3 := cell_later hSw d1; have q4 := cell_later hSw y0; have q5 := cell_later hSw y1; go_simp; try with_reducible rfl)
                    simp only [Act.put, List.setIfInBounds_toArray, List.set_cons_zero, List.set_cons_succ]
                    refine wpAnyH_take (i := 14) (oi := ⟨_, _, _, _, _, _⟩) (v := ?v111) rfl (by kernel_rfl) (by kernel_rfl) (by kernel_rfl) (fun _ _ _ h => h) ?y111 hS ?_
                    case y111 => first | (refine Or.inr ⟨by rfl, ?_⟩; with_reducible rfl) | (refine Or.inl ⟨by rfl, ?_⟩; intro wS hSw; have q0 := cell_later hSw e0; have q1 := cell_later hSw e1; have q2 := cell_later hSw d0; have q3 := cell_later hSw d1; have q4 := cell_later hSw y0; have q5 := cell_later hSw y1; go_simp; try with_reducible rfl)
                    simp only [Act.put, List.setIfInBounds_toArray, List.set_cons_zero, List.set_cons_succ]
                    refine wpAnyH_take (i := 15) (oi := ⟨_, _, _, _, _, _⟩) (v := ?v112) rfl (by kernel_rfl) (by kernel_rfl) (by kernel_rfl) (fun _ _ _ h => h) ?y112 hS ?_
                    case y112 => first | (refine Or.inr ⟨by rfl, ?_⟩; with_reducible rfl) | (refine Or.inl ⟨by rfl, ?_⟩; intro wS hSw; have q0 := cell_later hSw e0; have q1 := cell_later hSw e1; have q2 := cell_later hSw d0; have q3 := cell_later hSw d1; have q4 := cell_later hSw y0; have q5 := cell_later hSw y1; go_simp; try with_reducible rfl)
                    simp only [Act.put, List.setIfInBounds_toArray, List.set_cons_zero, List.set_cons_succ]
                    refine wpAnyH_take (i := 16) (oi := ⟨_, _, _, _, _, _⟩) (v := ?v113) rfl (by kernel_rfl) (by kernel_rfl) (by kernel_rfl) (fun _ _ _ h => h) ?y113 hS ?_
                    case y113 => first | (refine Or.inr ⟨by rfl, ?_⟩; with_reducible rfl) | (refine Or.inl ⟨by rfl, ?_⟩; intro wS hSw; have q0 := cell_later hSw e0; have q1 := cell_later hSw e1; have q2 := cell_later hSw d0; have q3 := cell_later hSw d1; have q4 := cell_later hSw y0; have q5 := cell_later hSw y1; go_simp; try with_reducible rfl)
                    simp only [Act.put, List.setIfInBounds_toArray, List.set_cons_zero, List.set_cons_succ]
                    refine wpAnyH_take (i := 17) (oi := ⟨_, _, _, _, _, _⟩) (v := ?v114) rfl (by kernel_rfl) (by kernel_rfl) (by kernel_rfl) (fun _ _ _ h => h) ?y114 hS ?_
                    case y114 => first | (refine Or.inr ⟨by rfl, ?_⟩; with_reducible rfl) | (refine Or.inl ⟨by rfl, ?_⟩; intro wS hSw; have q0 := cell_later hSw e0; have q1 := cell_later hSw e1; have q2 := cell_later hSw d0; have q3 := cell_later hSw d1; have q4 := cell_later hSw y0; have q5 := cell_later hSw y1; go_simp; try with_reducible rfl)
                    simp only [Act.put, List.setIfInBounds_toArray, List.set_cons_zero, List.set_cons_succ]
                    refine wpAnyH_take (i := 18) (oi := ⟨_, _, _, _, _, _⟩) (v := ?v115) rfl (by kernel_rfl) (by kernel_rfl) (by kernel_rfl) (fun _ _ _ h => h) ?y115 hS ?_
                    case y115 => first | (refine Or.inr ⟨by rfl, ?_⟩; with_reducible rfl) | (refine Or.inl ⟨by rfl, ?_⟩; intro wS hSw; have q0 := cell_later hSw e0; have q1 := cell_later hSw e1; have q2 := cell_later hSw d0; have q3 := cell_later hSw d1; have q4 := cell_later hSw y0; have q5 := cell_later hSw y1; go_simp; try with_reducible rfl)
                    simp only [Act.put, List.setIfInBounds_toArray, List.set_cons_zero, List.set_cons_succ]
                    refine wpAnyH_ready (rs := [19]) (by kernel_rfl) (by simp) ?_
                    refine AllReadyH.cons (o := ⟨_, _, _, _, _, _⟩) rfl (fun K hK => ?_) AllReadyH.nil
                    go_simp
                    refine (L2.out _ hS).mono ?_
                    rintro e wx ⟨rfl, hS⟩
                    go_wp2_with fail
                    refine hK.out _ _ hS (fun _ => ?_)
                    clear hK K
                    try simp only [Act.put, List.setIfInBounds_toArray, List.set_cons_zero, List.set_cons_succ]
                    refine wpAnyH_take (i := 20) (oi := ⟨_, _, _, _, _, _⟩) (v := ?v116) rfl (by kernel_rfl) (by kernel_rfl) (by kernel_rfl) (fun _ _ _ h => h) ?y116 hS ?_
                    case y116 => first | (refine Or.inr ⟨by rfl, ?_⟩; with_reducible rfl) | (refine Or.inl ⟨by rfl, ?_⟩; intro wS hSw; have q0 := cell_later hSw e0; have q1 := cell_later hSw e1; have q2 := cell_later hSw d0; have q3 := cell_later hSw d1; have q4 := cell_later hSw y0; have q5 := cell_later hSw y1; go_simp; try with_reducible rfl)
                    simp only [Act.put, List.setIfInBounds_toArray, List.set_cons_zero, List.set_cons_succ]
                    refine wpAnyH_take (i := 21) (oi := ⟨_, _, _, _, _, _⟩) (v := ?v117) rfl (by kernel_rfl) (by kernel_rfl) (by kernel_rfl) (fun _ _ _ h => h) ?y117 hS ?_
                    case y117 => first | (refine Or.inr ⟨by rfl, ?_⟩; with_reducible rfl) | (refine Or.inl ⟨by rfl, ?_⟩; intro wS hSw; have q0 := cell_later hSw e0; have q1 := cell_later hSw e1; have q2 := cell_later hSw d0; have q3 := cell_later hSw d1; have q4 := cell_later hSw y0; have q5 := cell_later hSw y1; go_simp; try with_reducible rfl)
                    simp only [Act.put, List.setIfInBounds_toArray, List.set_cons_zero, List.set_cons_succ]
                    refine wpAnyH_take (i := 22) (oi := ⟨_, _, _, _, _, _⟩) (v := ?v118) rfl (by kernel_rfl) (by kernel_rfl) (by kernel_rfl) (fun _ _ _ h => h) ?y118 hS ?_
                    case y118 => first | (refine Or.inr ⟨by rfl, ?_⟩; with_reducible rfl) | (refine Or.inl ⟨by rfl, ?_⟩; intro wS hSw; have q0 := cell_later hSw e0; have q1 := cell_later hSw e1; have q2 := cell_later hSw d0; have q3 := cell_later hSw d1; have q4 := cell_later hSw y0; have q5 := cell_later hSw y1; go_simp; try with_reducible rfl)
                    simp only [Act.put, List.setIfInBounds_toArray, List.set_cons_zero, List.set_cons_succ]
                    refine wpAnyH_take (i := 23) (oi := ⟨_, _, _, _, _, _⟩) (v := ?v119) rfl (by kernel_rfl) (by kernel_rfl) (by kernel_rfl) (fun _ _ _ h => h) ?y119 hS ?_
                    case y119 => first | (refine Or.inr ⟨by rfl, ?_⟩; with_reducible rfl) | (refine Or.inl ⟨by rfl, ?_⟩; intro wS hSw; have q0 := cell_later hSw e0; have q1 := cell_later hSw e1; have q2 := cell_later hSw d0; have q3 := cell_later hSw d1; have q4 := cell_later hSw y0; have q5 := cell_later hSw y1; go_simp; try with_reducible rfl)
                    simp only [Act.put, List.setIfInBounds_toArray, List.set_cons_zero, List.set_cons_succ]
                    refine wpAnyH_take (i := 24) (oi := ⟨_, _, _, _, _, _⟩) (v := ?v120) rfl (by kernel_rfl) (by kernel_rfl) (by kernel_rfl) (fun _ _ _ h => h) ?y120 hS ?_
                    case y120 => first | (refine Or.inr ⟨by rfl, ?_⟩; with_reducible rfl) | (refine Or.inl ⟨by rfl, ?_⟩; intro wS hSw; have q0 := cell_later hSw e0; have q1 := cell_later hSw e1; have q2 := cell_later hSw d0; have q3 := cell_later hSw d1; have q4 := cell_later hSw y0; have q5 := cell_later hSw y1; go_simp; try with_reducible rfl)
                    simp only [Act.put, List.setIfInBounds_toArray, List.set_cons_zero, List.set_cons_succ]
                    refine wpAnyH_take (i := 25) (oi := ⟨_, _, _, _, _, _⟩) (v := ?v121) rfl (by kernel_rfl) (by kernel_rfl) (by kernel_rfl) (fun _ _ _ h => h) ?y121 hS ?_
                    case y121 => first | (refine Or.inr ⟨by rfl, ?_⟩; with_reducible rfl) | (refine Or.inl ⟨by rfl, ?_⟩; intro wS hSw; have q0 := cell_later hSw e0; have q1 := cell_later hSw e1; have q2 := cell_later hSw d0; have q3 := cell_later hSw d1; have q4 := cell_later hSw y0; have q5 := cell_later hSw y1; go_simp; try with_reducible rfl)
                    simp only [Act.put, List.setIfInBounds_toArray, List.set_cons_zero, List.set_cons_succ]
                    refine wpAnyH_take (i := 26) (oi := ⟨_, _, _, _, _, _⟩) (v := ?v122) rfl (by kernel_rfl) (by kernel_rfl) (by kernel_rfl) (fun _ _ _ h => h) ?y122 hS ?_
                    case y122 => first | (refine Or.inr ⟨by rfl, ?_⟩; with_reducible rfl) | (refine Or.inl ⟨by rfl, ?_⟩; intro wS hSw; have q0 := cell_later hSw e0; have q1 := cell_later hSw e1; have q2 := cell_later hSw d0; have q3 := cell_later hSw d1; have q4 := cell_later hSw y0; have q5 := cell_later hSw y1; go_simp; try with_reducible rfl)
                    simp only [Act.put, List.setIfInBounds_toArray, List.set_cons_zero, List.set_cons_succ]
                    refine wpAnyH_ready (rs := [27]) (by kernel_rfl) (by simp) ?_
                    refine AllReadyH.cons (o := ⟨_, _, _, _, _, _⟩) rfl (fun K hK => ?_) AllReadyH.nil
                    go_simp
                    refine hK.out _ _ hS (fun _ => ?_)
                    clear hK K
                    try simp only [Act.put, List.setIfInBounds_toArray, List.set_cons_zero, List.set_cons_succ]
                    refine wpAnyH_take (i := 28) (oi := ⟨_, _, _, _, _, _⟩) (v := ?v123) rfl (by kernel_rfl) (by kernel_rfl) (by kernel_rfl) (fun _ _ _ h => h) ?y123 hS ?_
                    case y123 => first | (refine Or.inr ⟨by rfl, ?_⟩; with_reducible rfl) | (refine Or.inl ⟨by rfl, ?_⟩; intro wS hSw; have q0 := cell_later hSw e0; have q1 := cell_later hSw e1; have q2 := cell_later hSw d0; have q3 := cell_later hSw d1; have q4 := cell_later hSw y0; have q5 := cell_later hSw y1; go_simp; try with_reducible rfl)
                    simp only [Act.put, List.setIfInBounds_toArray, List.set_cons_zero, List.set_cons_succ]
                    refine wpAnyH_take (i := 29) (oi := ⟨_, _, _, _, _, _⟩) (v := ?v124) rfl (by kernel_rfl) (by kernel_rfl) (by kernel_rfl) (fun _ _ _ h => h) ?y124 hS ?_
                    case y124 => first | (refine Or.inr ⟨by rfl, ?_⟩; with_reducible rfl) | (refine Or.inl ⟨by rfl, ?_⟩; intro wS hSw; have q0 := cell_later hSw e0; have q1 := cell_later hSw e1; have q2 := cell_later hSw d0; have q3 := cell_later hSw d1; have q4 := cell_later hSw y0; have q5 := cell_later hSw y1; go_simp; try with_reducible rfl)
                    simp only [Act.put, List.setIfInBounds_toArray, List.set_cons_zero, List.set_cons_succ]
                    refine wpAnyH_done (by kernel_rfl) ?_ _
                    have HBf := Lib.hid (HB1.out.trans (hS.mono HB1.out.size))
                    clear hS e0 e1 d0 d1 y0 y1
                    go_wp2
                    go_meet
                    exact ⟨by rw [HAp.out]; rfl, HBf⟩
                · refine wp_region_held_drew (S := fun u => Below wc.heap.size wc u) (by kernel_rfl) HDr.out (fun hS => ?_)
                  refine wpAnyH_take (i := 0) (oi := ⟨_, _, _, _, _, _⟩) (v := ?v125) rfl (by kernel_rfl) (by kernel_rfl) (by kernel_rfl) (fun _ _ _ h => h) ?y125 hS ?_
                  case y125 => first | (refine Or.inr ⟨by rfl, ?_⟩; with_reducible rfl) | (refine Or.inl ⟨by rfl, ?_⟩; intro wS hSw; have q0 := cell_later hSw e0; have q1 := cell_later hSw e1; have q2 := cell_later hSw d0; have q3 := cell_later hSw d1; have q4 := cell_later hSw y0; have q5 := cell_later hSw y1; go_simp; try with_reducible rfl)
                  simp only [Act.put, List.setIfInBounds_toArray, List.set_cons_zero, List.set_cons_succ]
                  refine wpAnyH_take (i := 1) (oi := ⟨_, _, _, _, _, _⟩) (v := ?v126) rfl (by kernel_rfl) (by kernel_rfl) (by kernel_rfl) (fun _ _ _ h => h) ?y126 hS ?_
                  case y126 => first | (refine Or.inr ⟨by rfl, ?_⟩; with_reducible rfl) | (refine Or.inl ⟨by rfl, ?_⟩; intro wS hSw; have q0 := cell_later hSw e0; have q1 := cell_later hSw e1; have q2 := cell_later hSw d0; have q3 := cell_later hSw d1; have q4 := cell_later hSw y0; have q5 := cell_later hSw y1; go_simp; try with_reducible rfl)
                  simp only [Act.put, List.setIfInBounds_toArray, List.set_cons_zero, List.set_cons_succ]
                  refine wpAnyH_take (i := 2) (oi := ⟨_, _, _, _, _, _⟩) (v := ?v127) rfl (by kernel_rfl) (by kernel_rfl) (by kernel_rfl) (fun _ _ _ h => h) ?y127 hS ?_
                  case y127 => first | (refine Or.inr ⟨by rfl, ?_⟩; with_reducible rfl) | (refine Or.inl ⟨by rfl, ?_⟩; intro wS hSw; have q0 := cell_later hSw e0; have q1 := cell_later hSw e1; have q2 := cell_later hSw d0; have q3 := cell_later hSw d1; have q4 := cell_later hSw y0; have q5 := cell_later hSw y1; go_simp; try with_reducible rfl)
                  simp only [Act.put, List.setIfInBounds_toArray, List.set_cons_zero, List.set_cons_succ]
                  refine wpAnyH_take (i := 3) (oi := ⟨_, _, _, _, _, _⟩) (v := ?v128) rfl (by kernel_rfl) (by kernel_rfl) (by kernel_rfl) (fun _ _ _ h => h) ?y128 hS ?_
                  case y128 => first | (refine Or.inr ⟨by rfl, ?_⟩; with_reducible rfl) | (refine Or.inl ⟨by rfl, ?_⟩; intro wS hSw; have q0 := cell_later hSw e0; have q1 := cell_later hSw e1; have q2 := cell_later hSw d0; have q3 := cell_later hSw d1; have q4 := cell_later hSw y0; have q5 := cell_later hSw y1; go_simp; try with_reducible rfl)
                  simp only [Act.put, List.setIfInBounds_toArray, List.set_cons_zero, List.set_cons_succ]
                  refine wpAnyH_take (i := 4) (oi := ⟨_, _, _, _, _, _⟩) (v := ?v129) rfl (by kernel_rfl) (by kernel_rfl) (by kernel_rfl) (fun _ _ _ h => h) ?y129 hS ?_
                  case y129 => first | (refine Or.inr ⟨by rfl, ?_⟩; with_reducible rfl) | (refine Or.inl ⟨by rfl, ?_⟩; intro wS hSw; have q0 := cell_later hSw e0; have q1 := cell_later hSw e1; have q2 := cell_later hSw d0; have q3 := cell_later hSw d1; have q4 := cell_later hSw y0; have q5 := cell_later hSw y1; go_simp; try with_reducible rfl)
                  simp only [Act.put, List.setIfInBounds_toArray, List.set_cons_zero, List.set_cons_succ]
                  refine wpAnyH_take (i := 5) (oi := ⟨_, _, _, _, _, _⟩) (v := ?v130) rfl (by kernel_rfl) (by kernel_rfl) (by kernel_rfl) (fun _ _ _ h => h) ?y130 hS ?_
                  case y130 => first | (refine Or.inr ⟨by rfl, ?_⟩; with_reducible rfl) | (refine Or.inl ⟨by rfl, ?_⟩; intro wS hSw; have q0 := cell_later hSw e0; have q1 := cell_later hSw e1; have q2 := cell_later hSw d0; have q3 := cell_later hSw d1; have q4 := cell_later hSw y0; have q5 := cell_later hSw y1; go_simp; try with_reducible rfl)
                  simp only [Act.put, List.setIfInBounds_toArray, List.set_cons_zero, List.set_cons_succ]
                  refine wpAnyH_take (i := 6) (oi := ⟨_, _, _, _, _, _⟩) (v := ?v131) rfl (by kernel_rfl) (by kernel_rfl) (by kernel_rfl) (fun _ _ _ h => h) ?y131 hS ?_
                  case y131 => first | (refine Or.inr ⟨by rfl, ?_⟩; with_reducible rfl) | (refine Or.inl ⟨by rfl, ?_⟩; intro wS hSw; have q0 := cell_later hSw e0; have q1 := cell_later hSw e1; have q2 := cell_later hSw d0; have q3 := cell_later hSw d1; have q4 := cell_later hSw y0; have q5 := cell_later hSw y1; go_simp; try with_reducible rfl)
                  simp only [Act.put, List.setIfInBounds_toArray, List.set_cons_zero, List.set_cons_succ]
                  refine wpAnyH_take (i := 7) (oi := ⟨_, _, _, _, _, _⟩) (v := ?v132) rfl (by kernel_rfl) (by kernel_rfl) (by kernel_rfl) (fun _ _ _ h => h) ?y132 hS ?_
                  case y132 => first | (refine Or.inr ⟨by rfl, ?_⟩; with_reducible rfl) | (refine Or.inl ⟨by rfl, ?_⟩; intro wS hSw; have q0 := cell_later hSw e0; have q1 := cell_later hSw e1; have q2 := cell_later hSw d0; have q3 := cell_later hSw d1; have q4 := cell_later hSw y0; have q5 := cell_later hSw y1; go_simp; try with_reducible rfl)
                  simp only [Act.put, List.setIfInBounds_toArray, List.set_cons_zero, List.set_cons_succ]
                  refine wpAnyH_ready (rs := [8]) (by kernel_rfl) (by simp) ?_
                  refine AllReadyH.cons (o := ⟨_, _, _, _, _, _⟩) rfl (fun K hK => ?_) AllReadyH.nil
                  go_simp
                  refine (L1.out _ hS).mono ?_
                  rintro e wx ⟨rfl, hS⟩
                  go_wp2_with fail
                  refine hK.out _ _ hS (fun _ => ?_)
                  clear hK K
                  try simp only [Act.put, List.setIfInBounds_toArray, List.set_cons_zero, List.set_cons_succ]
                  refine wpAnyH_take (i := 9) (oi := ⟨_, _, _, _, _, _⟩) (v := ?v133) rfl (by kernel_rfl) (by kernel_rfl) (by kernel_rfl) (fun _ _ _ h => h) ?y133 hS ?_
                  case y133 => first | (refine Or.inr ⟨by rfl, ?_⟩; with_reducible rfl) | (refine Or.inl ⟨by rfl, ?_⟩; intro wS hSw; have q0 := cell_later hSw e0; have q1 := cell_later hSw e1; have q2 := cell_later hSw d0; have q3 := cell_later hSw d1; have q4 := cell_later hSw y0; have q5 := cell_later hSw y1; go_simp; try with_reducible rfl)
                  simp only [Act.put, List.setIfInBounds_toArray, List.set_cons_zero, List.set_cons_succ]
                  refine wpAnyH_take (i := 10) (oi := ⟨_, _, _, _, _, _⟩) (v := ?v134) rfl (by kernel_rfl) (by kernel_rfl) (by kernel_rfl) (fun _ _ _ h => h) ?y134 hS ?_
                  case y134 => first | (refine Or.inr ⟨by rfl, ?_⟩; with_reducible rfl) | (refine Or.inl ⟨by rfl, ?_⟩; intro wS hSw; have q0 := cell_later hSw e0; have q1 := cell_later hSw e1; have q2 := cell_later hSw d0; have q3 := cell_later hSw d1; have q4 := cell_later hSw y0; have q5 := cell_later hSw y1; go_simp; try with_reducible rfl)
                  simp only [Act.put, List.setIfInBounds_toArray, List.set_cons_zero, List.set_cons_succ]
                  refine wpAnyH_take (i := 11) (oi := ⟨_, _, _, _, _, _⟩) (v := ?v135) rfl (by kernel_rfl) (by kernel_rfl) (by kernel_rfl) (fun _ _ _ h => h) ?y135 hS ?_
                  case y135 => first | (refine Or.inr ⟨by rfl, ?_⟩; with_reducible rfl) | (refine Or.inl ⟨by rfl, ?_⟩; intro wS hSw; have q0 := cell_later hSw e0; have q1 := cell_later hSw e1; have q2 := cell_later hSw d0; have q3 := cell_later hSw d1; have q4 := cell_later hSw y0; have q5 := cell_later hSw y1; go_simp; try with_reducible rfl)
                  simp only [Act.put, List.setIfInBounds_toArray, List.set_cons_zero, List.set_cons_succ]
                  refine wpAnyH_take (i := 12) (oi := ⟨_, _, _, _, _, _⟩) (v := ?v136) rfl (by kernel_rfl) (by kernel_rfl) (by kernel_rfl) (fun _ _ _ h => h) ?y136 hS ?_
                  case y136 => first | (refine Or.inr ⟨by rfl, ?_⟩; with_reducible rfl) | (refine Or.inl ⟨by rfl, ?_⟩; intro wS hSw; have q0 := cell_later hSw e0; have q1 := cell_later hSw e1; have q2 := cell_later hSw d0; have q3 := cell_later hSw d1; have q4 := cell_later hSw y0; have q5 := cell_later hSw y1; go_simp; try with_reducible rfl)
                  simp only [Act.put, List.setIfInBounds_toArray, List.set_cons_zero, List.set_cons_succ]
                  refine wpAnyH_take (i := 13) (oi := ⟨_, _, _, _, _, _⟩) (v := ?v137) rfl (by kernel_rfl) (by kernel_rfl) (by kernel_rfl) (fun _ _ _ h => h) ?y137 hS ?_
                  case y137 => first | (refine Or.inr ⟨by rfl, ?_⟩; with_reducible rfl) | (refine Or.inl ⟨by rfl, ?_⟩; intro wS hSw; have q0 := cell_later hSw e0; have q1 := cell_later hSw e1; have q2 := cell_later hSw d0; have q3 := cell_later hSw d1; have q4 := cell_later hSw y0; have q5 := cell_later hSw y1; go_simp; try with_reducible rfl)
                  simp only [Act.put, List.setIfInBounds_toArray, List.set_cons_zero, List.set_cons_succ]
                  refine wpAnyH_take (i := 14) (oi := ⟨_, _, _, _, _, _⟩) (v := ?v138) rfl (by kernel_rfl) (by kernel_rfl) (by kernel_rfl) (fun _ _ _ h => h) ?y138 hS ?_
                  case y138 => first | (refine Or.inr ⟨by rfl, ?_⟩; with_reducible rfl) | (refine Or.inl ⟨by rfl, ?_⟩; intro wS hSw; have q0 := cell_later hSw e0; have q1 := cell_later hSw e1; have q2 := cell_later hSw d0; have q3 := cell_later hSw d1; have q4 := cell_later hSw y0; have q5 := cell_later hSw y1; go_simp; try with_reducible rfl)
                  simp only [Act.put, List.setIfInBounds_toArray, List.set_cons_zero, List.set_cons_succ]
                  refine wpAnyH_take (i := 15) (oi := ⟨_, _, _, _, _, _⟩) (v := ?v139) rfl (by kernel_rfl) (by kernel_rfl) (by kernel_rfl) (fun _ _ _ h => h) ?y139 hS ?_
                  case y139 => first | (refine Or.inr ⟨by rfl, ?_⟩; with_reducible rfl) | (refine Or.inl ⟨by rfl, ?_⟩; intro wS hSw; have q0 := cell_later hSw e0; have q1 := cell_later hSw e1; have q2 := cell_later hSw d0; have q3 := cell_later hSw d1; have q4 := cell_later hSw y0; have q5 := cell_later hSw y1; go_simp; try with_reducible rfl)
                  simp only [Act.put, List.setIfInBounds_toArray, List.set_cons_zero, List.set_cons_succ]
                  refine wpAnyH_take (i := 16) (oi := ⟨_, _, _, _, _, _⟩) (v := ?v140) rfl (by kernel_rfl) (by kernel_rfl) (by kernel_rfl) (fun _ _ _ h => h) ?y140 hS ?_
                  case y140 => first | (refine Or.inr ⟨by rfl, ?_⟩; with_reducible rfl) | (refine Or.inl ⟨by rfl, ?_⟩; intro wS hSw; have q0 := cell_later hSw e0; have q1 := cell_later hSw e1; have q2 := cell_later hSw d0; have q3 := cell_later hSw d1; have q4 := cell_later hSw y0; have q5 := cell_later hSw y1; go_simp; try with_reducible rfl)
                  simp only [Act.put, List.setIfInBounds_toArray, List.set_cons_zero, List.set_cons_succ]
                  refine wpAnyH_take (i := 17) (oi := ⟨_, _, _, _, _, _⟩) (v := ?v141) rfl (by kernel_rfl) (by kernel_rfl) (by kernel_rfl) (fun _ _ _ h => h) ?y141 hS ?_
                  case y141 => first | (refine Or.inr ⟨by rfl, ?_⟩; with_reducible rfl) | (refine Or.inl ⟨by rfl, ?_⟩; intro wS hSw; have q0 := cell_later hSw e0; have q1 := cell_later hSw e1; have q2 := cell_later hSw d0; have q3 := cell_later hSw d1; have q4 := cell_later hSw y0; have q5 := cell_later hSw y1; go_simp; try with_reducible rfl)
                  simp only [Act.put, List.setIfInBounds_toArray, List.set_cons_zero, List.set_cons_succ]
                  refine wpAnyH_take (i := 18) (oi := ⟨_, _, _, _, _, _⟩) (v := ?v142) rfl (by kernel_rfl) (by kernel_rfl) (by kernel_rfl) (fun _ _ _ h => h) ?y142 hS ?_
                  case y142 => first | (refine Or.inr ⟨by rfl, ?_⟩; with_reducible rfl) | (refine Or.inl ⟨by rfl, ?_⟩; intro wS hSw; have q0 := cell_later hSw e0; have q1 := cell_later hSw e1; have q2 := cell_later hSw d0; have q3 := cell_later hSw d1; have q4 := cell_later hSw y0; have q5 := cell_later hSw y1; go_simp; try with_reducible rfl)
                  simp only [Act.put, List.setIfInBounds_toArray, List.set_cons_zero, List.set_cons_succ]
                  refine wpAnyH_ready (rs := [19]) (by kernel_rfl) (by simp) ?_
                  refine AllReadyH.cons (o := ⟨_, _, _, _, _, _⟩) rfl (fun K hK => ?_) AllReadyH.nil
                  go_simp
                  refine hK.out _ _ hS (fun _ => ?_)
                  clear hK K
                  try simp only [Act.put, List.setIfInBounds_toArray, List.set_cons_zero, List.set_cons_succ]
                  refine wpAnyH_take (i := 20) (oi := ⟨_, _, _, _, _, _⟩) (v := ?v143) rfl (by kernel_rfl) (by kernel_rfl) (by kernel_rfl) (fun _ _ _ h => h) ?y143 hS ?_
                  case y143 => first | (refine Or.inr ⟨by rfl, ?_⟩; with_reducible rfl) | (refine Or.inl ⟨by rfl, ?_⟩; intro wS hSw; have q0 := cell_later hSw e0; have q1 := cell_later hSw e1; have q2 := cell_later hSw d0; have q3 := cell_later hSw d1; have q4 := cell_later hSw y0; have q5 := cell_later hSw y1; go_simp; try with_reducible rfl)
                  simp only [Act.put, List.setIfInBounds_toArray, List.set_cons_zero, List.set_cons_succ]
                  refine wpAnyH_take (i := 21) (oi := ⟨_, _, _, _, _, _⟩) (v := ?v144) rfl (by kernel_rfl) (by kernel_rfl) (by kernel_rfl) (fun _ _ _ h => h) ?y144 hS ?_
                  case y144 => first | (refine Or.inr ⟨by rfl, ?_⟩; with_reducible rfl) | (refine Or.inl ⟨by rfl, ?_⟩; intro wS hSw; have q0 := cell_later hSw e0; have q1 := cell_later hSw e1; have q2 := cell_later hSw d0; have q3 := cell_later hSw d1; have q4 := cell_later hSw y0; have q5 := cell_later hSw y1; go_simp; try with_reducible rfl)
                  simp only [Act.put, List.setIfInBounds_toArray, List.set_cons_zero, List.set_cons_succ]
                  refine wpAnyH_take (i := 22) (oi := ⟨_, _, _, _, _, _⟩) (v := ?v145) rfl (by kernel_rfl) (by kernel_rfl) (by kernel_rfl) (fun _ _ _ h => h) ?y145 hS ?_
                  case y145 => first | (refine Or.inr ⟨by rfl, ?_⟩; with_reducible rfl) | (refine Or.inl ⟨by rfl, ?_⟩; intro wS hSw; have q0 := cell_later hSw e0; have q1 := cell_later hSw e1; have q2 := cell_later hSw d0; have q3 := cell_later hSw d1; have q4 := cell_later hSw y0; have q5 := cell_later hSw y1; go_simp; try with_reducible rfl)
                  simp only [Act.put, List.setIfInBounds_toArray, List.set_cons_zero, List.set_cons_succ]
                  refine wpAnyH_take (i := 23) (oi := ⟨_, _, _, _, _, _⟩) (v := ?v146) rfl (by kernel_rfl) (by kernel_rfl) (by kernel_rfl) (fun _ _ _ h => h) ?y146 hS ?_
                  case y146 => first | (refine Or.inr ⟨by rfl, ?_⟩; with_reducible rfl) | (refine Or.inl ⟨by rfl, ?_⟩; intro wS hSw; have q0 := cell_later hSw e0; have q1 := cell_later hSw e1; have q2 := cell_later hSw d0; have q3 := cell_later hSw d1; have q4 := cell_later hSw y0; have q5 := cell_later hSw y1; go_simp; try with_reducible rfl)
                  simp only [Act.put, List.setIfInBounds_toArray, List.set_cons_zero, List.set_cons_succ]
                  refine wpAnyH_take (i := 24) (oi := ⟨_, _, _, _, _, _⟩) (v := ?v147) rfl (by kernel_rfl) (by kernel_rfl) (by kernel_rfl) (fun _ _ _ h => h) ?y147 hS ?_
                  case y147 => first | (refine Or.inr ⟨by rfl, ?_⟩; with_reducible rfl) | (refine Or.inl ⟨by rfl, ?_⟩; intro wS hSw; have q0 := cell_later hSw e0; have q1 := cell_later hSw e1; have q2 := cell_later hSw d0; have q3 := cell_later hSw d1; have q4 := cell_later hSw y0; have q5 := cell_later hSw y1; go_simp; try with_reducible rfl)
                  simp only [Act.put, List.setIfInBounds_toArray, List.set_cons_zero, List.set_cons_succ]
                  refine wpAnyH_take (i := 25) (oi := ⟨_, _, _, _, _, _⟩) (v := ?v148) rfl (by kernel_rfl) (by kernel_rfl) (by kernel_rfl) (fun _ _ _ h => h) ?y148 hS ?_
                  case y148 => first | (refine Or.inr ⟨by rfl, ?_⟩; with_reducible rfl) | (refine Or.inl ⟨by rfl, ?_⟩; intro wS hSw; have q0 := cell_later hSw e0; have q1 := cell_later hSw e1; have q2 := cell_later hSw d0; have q3 := cell_later hSw d1; have q4 := cell_later hSw y0; have q5 := cell_later hSw y1; go_simp; try with_reducible rfl)
                  simp only [Act.put, List.setIfInBounds_toArray, List.set_cons_zero, List.set_cons_succ]
                  refine wpAnyH_take (i := 26) (oi := ⟨_, _, _, _, _, _⟩) (v := ?v149) rfl (by kernel_rfl) (by kernel_rfl) (by kernel_rfl) (fun _ _ _ h => h) ?y149 hS ?_
                  case y149 => first | (refine Or.inr ⟨by rfl, ?_⟩; with_reducible rfl) | (refine Or.inl ⟨by rfl, ?_⟩; intro wS hSw; have q0 := cell_later hSw e0; have q1 := cell_later hSw e1; have q2 := cell_later hSw d0; have q3 := cell_later hSw d1; have q4 := cell_later hSw y0; have q5 := cell_later hSw y1; go_simp; try with_reducible rfl)
                  simp only [Act.put, List.setIfInBounds_toArray, List.set_cons_zero, List.set_cons_succ]
                  refine wpAnyH_ready (rs := [27]) (by kernel_rfl) (by simp) ?_
                  refine AllReadyH.cons (o := ⟨_, _, _, _, _, _⟩) rfl (fun K hK => ?_) AllReadyH.nil
                  go_simp
                  refine hK.out _ _ hS (fun _ => ?_)
                  clear hK K
                  try simp only [Act.put, List.setIfInBounds_toArray, List.set_cons_zero, List.set_cons_succ]
                  refine wpAnyH_take (i := 28) (oi := ⟨_, _, _, _, _, _⟩) (v := ?v150) rfl (by kernel_rfl) (by kernel_rfl) (by kernel_rfl) (fun _ _ _ h => h) ?y150 hS ?_
                  case y150 => first | (refine Or.inr ⟨by rfl, ?_⟩; with_reducible rfl) | (refine Or.inl ⟨by rfl, ?_⟩; intro wS hSw; have q0 := cell_later hSw e0; have q1 := cell_later hSw e1; have q2 := cell_later hSw d0; have q3 := cell_later hSw d1; have q4 := cell_later hSw y0; have q5 := cell_later hSw y1; go_simp; try with_reducible rfl)
                  simp only [Act.put, List.setIfInBounds_toArray, List.set_cons_zero, List.set_cons_succ]
                  refine wpAnyH_take (i := 29) (oi := ⟨_, _, _, _, _, _⟩) (v := ?v151) rfl (by kernel_rfl) (by kernel_rfl) (by kernel_rfl) (fun _ _ _ h => h) ?y151 hS ?_
                  case y151 => first | (refine Or.inr ⟨by rfl, ?_⟩; with_reducible rfl) | (refine Or.inl ⟨by rfl, ?_⟩; intro wS hSw; have q0 := cell_later hSw e0; have q1 := cell_later hSw e1; have q2 := cell_later hSw d0; have q3 := cell_later hSw d1; have q4 := cell_later hSw y0; have q5 := cell_later hSw y1; go_simp; try with_reducible rfl)
                  simp only [Act.put, List.setIfInBounds_toArray, List.set_cons_zero, List.set_cons_succ]
                  refine wpAnyH_done (by kernel_rfl) ?_ _
                  have HBf := Lib.hid (HB1.out.trans (hS.mono HB1.out.size))
                  clear hS e0 e1 d0 d1 y0 y1
                  go_wp2
                  go_meet
                  exact ⟨by rw [HAp.out]; rfl, HBf⟩
              case rest =>
                obtain ⟨rfl, HB2⟩ := hcut
                clear e0 e1 d0 d1 y0 y1 K1 K2 K3 HB1
                cases ha : apartS ⟨fr, tz⟩ ⟨ofr, otz⟩
                · have HNo := Lib.hid (nestS_no hkL (fun hg => by
                    have := hg.2 j hltj
                    rw [HS.out, HO.out, ha] at this
                    cases this))
                  clear ha
                  go_wp2
                  go_ret
                  exact ⟨ret_bool HNo.out.symm, HB2.out⟩
                · have HU2 := Lib.hid (show ∀ j', j' < j + 1 → apartS ⟨fr, tz⟩ (l.getD j' ⟨0, 0⟩) = true from fun j' hj' => by
                    by_cases h : j' < j
                    · exact HU.out j' h
                    · obtain rfl : j' = j := by omega
                      rw [HO.out]
                      exact ha)
                  clear ha
                  go_wp2
                  go_roundw
                  case rel => exact ⟨j + 1, by omega, by go_num, HU2, HB2⟩
                  case measure => simp [intOf]; omega
          · have hltj' : ¬ (j : Int) < k := by omega
            have HT2 := Lib.hid (show ∀ j, j < k + 1 → Good l j from fun j' hj' => by
              by_cases h : j' < k
              · exact HT.out j' h
              · obtain rfl : j' = k := by omega
                exact ⟨by rw [HS.out]; exact HRr.out, fun i hi => by rw [HS.out]; exact HU.out i (by omega)⟩)
            go_wp2
            go_roundw
            case rel => exact ⟨k + 1, by omega, by go_num, HT2, HB⟩
            case measure => simp [intOf]; omega
    · have hlt' : ¬ (k : Int) < n := by omega
      have HYes := Lib.hid ((nestS_iff l).2 (fun i hi => HT.out i (by rw [← HN.out] at hi; omega)))
      go_wp2
      go_ret
      exact ⟨ret_bool HYes.out.symm, HB.out⟩
end Go.Proofs.Ytndminmefacmnaa
