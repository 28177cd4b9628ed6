import Derived.Test.YtkimkghldilliaaAwKm
namespace Go.Proofs.Ytkimkghldilliaa
open Go.RowKit Go.Lib

set_option maxRecDepth 100000 in
set_option maxHeartbeats 4000000 in
theorem known_2 (n : Int) (w : World) (hk : pickN n 12 = 2) : Calls Try.prog 14 #[.int .i64 n] w (GrPost kn2 w) := by
  go_enter Try.func14, Try.ntmps14
  go_upto_region 1 with (fail)
  refine gen_world (S := fun u => Below w.heap.size w u ∧ u.heap[w.heap.size]? = some (.cells #[.slice none 0 0, .slice none 0 0] 27 (0, 0))) (one_new w _) (fun u hu => ?_)
  obtain ⟨hb, h1⟩ := hu
  have B0 := Lib.hid hb
  have H1 := Lib.hid h1
  obtain ⟨X, hX⟩ : ∃ X, X = w.heap.size := ⟨_, rfl⟩
  have HX := Lib.hid hX
  rw [← hX] at H1 ⊢
  clear hb h1 hX
  go_wp2_with fail
  refine (pick_any u n 12 (by omega) (by omega)).mono ?_
  rintro e u' ⟨rfl, rfl⟩
  rw [hk]
  clear hk
  go_wp2_with fail
  refine (call_made 1 0 u).mono ?_
  rintro e w1 ⟨v25, N25, rfl, hm, hO, hB⟩
  have M25_1 := Lib.hid (show NsM w1 v25 [callN 1 0] from NsM.of (w' := w) hm hO)
  have B1 := Lib.hid (B0.out.trans (hB.mono B0.out.size))
  have H1_1 := Lib.hid ((hB.block _ (lt_of_block H1.out)).trans H1.out)
  clear hm hO hB B0 H1
  obtain ⟨a25, n25, c25, rfl⟩ := M25_1.out.val
  go_wp2_with fail
  refine (word_made ⟨#[97]⟩ w1).mono ?_
  rintro e w2 ⟨v26, N26, rfl, hm, hO, hB⟩
  have M26_2 := Lib.hid (show NsM w2 v26 [wordN ⟨#[97]⟩] from NsM.of (w' := w) hm hO)
  have M25_2 := Lib.hid (M25_1.out.later hB)
  have B2 := Lib.hid (B1.out.trans (hB.mono B1.out.size))
  have H1_2 := Lib.hid ((hB.block _ (lt_of_block H1_1.out)).trans H1_1.out)
  clear hm hO hB M25_1 B1 H1_1
  obtain ⟨a26, n26, c26, rfl⟩ := M26_2.out.val
  go_wp2_with fail
  refine (chain_m _ _ _ _ w2 M25_2.out M26_2.out (by kernel_rfl) (by kernel_rfl)).mono ?_
  rintro e w3 ⟨v27, N27, rfl, hm, hO, hB⟩
  have M27_3 := Lib.hid (show NsM w3 v27 (ofN 6 [[callN 1 0], [wordN ⟨#[97]⟩]]) from NsM.of (w' := w) hm hO)
  have B3 := Lib.hid (B2.out.trans (hB.mono B2.out.size))
  have H1_3 := Lib.hid ((hB.block _ (lt_of_block H1_2.out)).trans H1_2.out)
  clear hm hO hB M25_2 M26_2 B2 H1_2
  obtain ⟨a27, n27, c27, rfl⟩ := M27_3.out.val
  go_wp2_with fail
  refine (word_made ⟨#[98]⟩ w3).mono ?_
  rintro e w4 ⟨v28, N28, rfl, hm, hO, hB⟩
  have M28_4 := Lib.hid (show NsM w4 v28 [wordN ⟨#[98]⟩] from NsM.of (w' := w) hm hO)
  have M27_4 := Lib.hid (M27_3.out.later hB)
  have B4 := Lib.hid (B3.out.trans (hB.mono B3.out.size))
  have H1_4 := Lib.hid ((hB.block _ (lt_of_block H1_3.out)).trans H1_3.out)
  clear hm hO hB M27_3 B3 H1_3
  obtain ⟨a28, n28, c28, rfl⟩ := M28_4.out.val
  go_wp2_with fail
  refine (first_m _ _ _ _ w4 M27_4.out M28_4.out (by kernel_rfl) (by kernel_rfl)).mono ?_
  rintro e w5 ⟨v29, N29, rfl, hm, hO, hB⟩
  have M29_5 := Lib.hid (show NsM w5 v29 (ofN 7 [(ofN 6 [[callN 1 0], [wordN ⟨#[97]⟩]]), [wordN ⟨#[98]⟩]]) from NsM.of (w' := w) hm hO)
  have B5 := Lib.hid (B4.out.trans (hB.mono B4.out.size))
  have H1_5 := Lib.hid ((hB.block _ (lt_of_block H1_4.out)).trans H1_4.out)
  clear hm hO hB M27_4 M28_4 B4 H1_4
  obtain ⟨a29, n29, c29, rfl⟩ := M29_5.out.val
  go_wp2_with fail
  refine (call_made 0 0 w5).mono ?_
  rintro e w6 ⟨v30, N30, rfl, hm, hO, hB⟩
  have M30_6 := Lib.hid (show NsM w6 v30 [callN 0 0] from NsM.of (w' := w) hm hO)
  have M29_6 := Lib.hid (M29_5.out.later hB)
  have B6 := Lib.hid (B5.out.trans (hB.mono B5.out.size))
  have H1_6 := Lib.hid ((hB.block _ (lt_of_block H1_5.out)).trans H1_5.out)
  clear hm hO hB M29_5 B5 H1_5
  obtain ⟨a30, n30, c30, rfl⟩ := M30_6.out.val
  go_wp2_with fail
  refine (word_made ⟨#[98]⟩ w6).mono ?_
  rintro e w7 ⟨v31, N31, rfl, hm, hO, hB⟩
  have M31_7 := Lib.hid (show NsM w7 v31 [wordN ⟨#[98]⟩] from NsM.of (w' := w) hm hO)
  have M29_7 := Lib.hid (M29_6.out.later hB)
  have M30_7 := Lib.hid (M30_6.out.later hB)
  have B7 := Lib.hid (B6.out.trans (hB.mono B6.out.size))
  have H1_7 := Lib.hid ((hB.block _ (lt_of_block H1_6.out)).trans H1_6.out)
  clear hm hO hB M29_6 M30_6 B6 H1_6
  obtain ⟨a31, n31, c31, rfl⟩ := M31_7.out.val
  go_wp2_with fail
  refine (chain_m _ _ _ _ w7 M30_7.out M31_7.out (by kernel_rfl) (by kernel_rfl)).mono ?_
  rintro e w8 ⟨v32, N32, rfl, hm, hO, hB⟩
  have M32_8 := Lib.hid (show NsM w8 v32 (ofN 6 [[callN 0 0], [wordN ⟨#[98]⟩]]) from NsM.of (w' := w) hm hO)
  have M29_8 := Lib.hid (M29_7.out.later hB)
  have B8 := Lib.hid (B7.out.trans (hB.mono B7.out.size))
  have H1_8 := Lib.hid ((hB.block _ (lt_of_block H1_7.out)).trans H1_7.out)
  clear hm hO hB M30_7 M31_7 M29_7 B7 H1_7
  obtain ⟨a32, n32, c32, rfl⟩ := M32_8.out.val
  go_wp2_with fail
  refine (word_made ⟨#[97]⟩ w8).mono ?_
  rintro e w9 ⟨v33, N33, rfl, hm, hO, hB⟩
  have M33_9 := Lib.hid (show NsM w9 v33 [wordN ⟨#[97]⟩] from NsM.of (w' := w) hm hO)
  have M29_9 := Lib.hid (M29_8.out.later hB)
  have M32_9 := Lib.hid (M32_8.out.later hB)
  have B9 := Lib.hid (B8.out.trans (hB.mono B8.out.size))
  have H1_9 := Lib.hid ((hB.block _ (lt_of_block H1_8.out)).trans H1_8.out)
  clear hm hO hB M29_8 M32_8 B8 H1_8
  obtain ⟨a33, n33, c33, rfl⟩ := M33_9.out.val
  go_wp2_with fail
  refine (first_m _ _ _ _ w9 M32_9.out M33_9.out (by kernel_rfl) (by kernel_rfl)).mono ?_
  rintro e w10 ⟨v34, N34, rfl, hm, hO, hB⟩
  have M34_10 := Lib.hid (show NsM w10 v34 (ofN 7 [(ofN 6 [[callN 0 0], [wordN ⟨#[98]⟩]]), [wordN ⟨#[97]⟩]]) from NsM.of (w' := w) hm hO)
  have M29_10 := Lib.hid (M29_9.out.later hB)
  have B10 := Lib.hid (B9.out.trans (hB.mono B9.out.size))
  have H1_10 := Lib.hid ((hB.block _ (lt_of_block H1_9.out)).trans H1_9.out)
  clear hm hO hB M32_9 M33_9 M29_9 B9 H1_9
  obtain ⟨a34, n34, c34, rfl⟩ := M34_10.out.val
  have HN11 := Lib.hid (one_new w10 (.cells #[.slice a29 n29 c29, .slice a34 n34 c34] 25 (0, 0)))
  go_wp2_with fail
  refine (gram_m w10.heap.size [.slice a29 n29 c29, .slice a34 n34 c34] [(ofN 7 [(ofN 6 [[callN 1 0], [wordN ⟨#[97]⟩]]), [wordN ⟨#[98]⟩]]), (ofN 7 [(ofN 6 [[callN 0 0], [wordN ⟨#[98]⟩]]), [wordN ⟨#[97]⟩]])] _ HN11.out.2 ⟨M29_10.out.later HN11.out.1, (by kernel_rfl), M34_10.out.later HN11.out.1, (by kernel_rfl), trivial⟩ (by simp)).mono ?_
  rintro e w11 ⟨rv, nv, N, rfl, hm, hR, hO, hB⟩
  replace hB := HN11.out.1.trans (hB.mono HN11.out.1.size)
  have B11 := Lib.hid (B10.out.trans (hB.mono B10.out.size))
  have H1_11 := Lib.hid ((hB.block _ (lt_of_block H1_10.out)).trans H1_10.out)
  have hb2 : w.heap.size ≤ w10.heap.size := B10.out.size
  have hb3 := HN11.out.1.size
  have HR := Lib.hid (ownsRow_base hR (Nat.le_trans hb2 hb3))
  have HO := Lib.hid (hO.base_le (Nat.le_trans hb2 hb3))
  have HM := Lib.hid hm
  clear hm hR hO hB hb2 hb3 M29_10 M34_10 B10 H1_10
  obtain ⟨ra, rc, rfl⟩ := own_val HR.out
  obtain ⟨na, nc, hnv⟩ := own_val HO.out.row
  subst hnv
  obtain ⟨nl, hnl⟩ : ∃ nl, nl = N.length := ⟨_, rfl⟩
  have HNl := Lib.hid hnl
  rw [← hnl] at HO ⊢
  clear hnl
  obtain ⟨u0, u1, e0, e1⟩ := box_cells H1_11.out
  go_wp2
  obtain ⟨k2, hk2⟩ := set2g H1_11.out (.slice ra 2 rc) (.slice na nl nc)
  obtain ⟨q0, q1, -, -⟩ := box_cells k2
  exact bodyPost_ret (v := .agg #[.slice ra 2 rc, .slice na nl nc]) (by simp [results, Try.f14, go_sem, q0, q1]) rfl ⟨_, _, N, rfl, HM.out, Keeps.row hk2 HR.out (fun k e => own_off HR.out H1_11.out (by decide) k e), HO.out.off H1_11.out hk2, B11.out.trans (Keeps.one_below hk2 B11.out.size (Nat.le_of_eq HX.out.symm))⟩
set_option maxRecDepth 100000 in
set_option maxHeartbeats 4000000 in
theorem known_4 (n : Int) (w : World) (hk : pickN n 12 = 4) : Calls Try.prog 14 #[.int .i64 n] w (GrPost kn4 w) := by
  go_enter Try.func14, Try.ntmps14
  go_upto_region 1 with (fail)
  refine gen_world (S := fun u => Below w.heap.size w u ∧ u.heap[w.heap.size]? = some (.cells #[.slice none 0 0, .slice none 0 0] 27 (0, 0))) (one_new w _) (fun u hu => ?_)
  obtain ⟨hb, h1⟩ := hu
  have B0 := Lib.hid hb
  have H1 := Lib.hid h1
  obtain ⟨X, hX⟩ : ∃ X, X = w.heap.size := ⟨_, rfl⟩
  have HX := Lib.hid hX
  rw [← hX] at H1 ⊢
  clear hb h1 hX
  go_wp2_with fail
  refine (pick_any u n 12 (by omega) (by omega)).mono ?_
  rintro e u' ⟨rfl, rfl⟩
  rw [hk]
  clear hk
  go_wp2_with fail
  refine (call_made 1 0 u).mono ?_
  rintro e w1 ⟨v48, N48, rfl, hm, hO, hB⟩
  have M48_1 := Lib.hid (show NsM w1 v48 [callN 1 0] from NsM.of (w' := w) hm hO)
  have B1 := Lib.hid (B0.out.trans (hB.mono B0.out.size))
  have H1_1 := Lib.hid ((hB.block _ (lt_of_block H1.out)).trans H1.out)
  clear hm hO hB B0 H1
  obtain ⟨a48, n48, c48, rfl⟩ := M48_1.out.val
  go_wp2_with fail
  refine (call_made 0 0 w1).mono ?_
  rintro e w2 ⟨v49, N49, rfl, hm, hO, hB⟩
  have M49_2 := Lib.hid (show NsM w2 v49 [callN 0 0] from NsM.of (w' := w) hm hO)
  have M48_2 := Lib.hid (M48_1.out.later hB)
  have B2 := Lib.hid (B1.out.trans (hB.mono B1.out.size))
  have H1_2 := Lib.hid ((hB.block _ (lt_of_block H1_1.out)).trans H1_1.out)
  clear hm hO hB M48_1 B1 H1_1
  obtain ⟨a49, n49, c49, rfl⟩ := M49_2.out.val
  go_wp2_with fail
  refine (chain_m _ _ _ _ w2 M48_2.out M49_2.out (by kernel_rfl) (by kernel_rfl)).mono ?_
  rintro e w3 ⟨v50, N50, rfl, hm, hO, hB⟩
  have M50_3 := Lib.hid (show NsM w3 v50 (ofN 6 [[callN 1 0], [callN 0 0]]) from NsM.of (w' := w) hm hO)
  have B3 := Lib.hid (B2.out.trans (hB.mono B2.out.size))
  have H1_3 := Lib.hid ((hB.block _ (lt_of_block H1_2.out)).trans H1_2.out)
  clear hm hO hB M48_2 M49_2 B2 H1_2
  obtain ⟨a50, n50, c50, rfl⟩ := M50_3.out.val
  go_wp2_with fail
  refine (word_made ⟨#[97]⟩ w3).mono ?_
  rintro e w4 ⟨v51, N51, rfl, hm, hO, hB⟩
  have M51_4 := Lib.hid (show NsM w4 v51 [wordN ⟨#[97]⟩] from NsM.of (w' := w) hm hO)
  have M50_4 := Lib.hid (M50_3.out.later hB)
  have B4 := Lib.hid (B3.out.trans (hB.mono B3.out.size))
  have H1_4 := Lib.hid ((hB.block _ (lt_of_block H1_3.out)).trans H1_3.out)
  clear hm hO hB M50_3 B3 H1_3
  obtain ⟨a51, n51, c51, rfl⟩ := M51_4.out.val
  go_wp2_with fail
  refine (first_m _ _ _ _ w4 M50_4.out M51_4.out (by kernel_rfl) (by kernel_rfl)).mono ?_
  rintro e w5 ⟨v52, N52, rfl, hm, hO, hB⟩
  have M52_5 := Lib.hid (show NsM w5 v52 (ofN 7 [(ofN 6 [[callN 1 0], [callN 0 0]]), [wordN ⟨#[97]⟩]]) from NsM.of (w' := w) hm hO)
  have B5 := Lib.hid (B4.out.trans (hB.mono B4.out.size))
  have H1_5 := Lib.hid ((hB.block _ (lt_of_block H1_4.out)).trans H1_4.out)
  clear hm hO hB M50_4 M51_4 B4 H1_4
  obtain ⟨a52, n52, c52, rfl⟩ := M52_5.out.val
  go_wp2_with fail
  refine (call_made 0 0 w5).mono ?_
  rintro e w6 ⟨v53, N53, rfl, hm, hO, hB⟩
  have M53_6 := Lib.hid (show NsM w6 v53 [callN 0 0] from NsM.of (w' := w) hm hO)
  have M52_6 := Lib.hid (M52_5.out.later hB)
  have B6 := Lib.hid (B5.out.trans (hB.mono B5.out.size))
  have H1_6 := Lib.hid ((hB.block _ (lt_of_block H1_5.out)).trans H1_5.out)
  clear hm hO hB M52_5 B5 H1_5
  obtain ⟨a53, n53, c53, rfl⟩ := M53_6.out.val
  go_wp2_with fail
  refine (word_made ⟨#[98]⟩ w6).mono ?_
  rintro e w7 ⟨v54, N54, rfl, hm, hO, hB⟩
  have M54_7 := Lib.hid (show NsM w7 v54 [wordN ⟨#[98]⟩] from NsM.of (w' := w) hm hO)
  have M52_7 := Lib.hid (M52_6.out.later hB)
  have M53_7 := Lib.hid (M53_6.out.later hB)
  have B7 := Lib.hid (B6.out.trans (hB.mono B6.out.size))
  have H1_7 := Lib.hid ((hB.block _ (lt_of_block H1_6.out)).trans H1_6.out)
  clear hm hO hB M52_6 M53_6 B6 H1_6
  obtain ⟨a54, n54, c54, rfl⟩ := M54_7.out.val
  go_wp2_with fail
  refine (chain_m _ _ _ _ w7 M53_7.out M54_7.out (by kernel_rfl) (by kernel_rfl)).mono ?_
  rintro e w8 ⟨v55, N55, rfl, hm, hO, hB⟩
  have M55_8 := Lib.hid (show NsM w8 v55 (ofN 6 [[callN 0 0], [wordN ⟨#[98]⟩]]) from NsM.of (w' := w) hm hO)
  have M52_8 := Lib.hid (M52_7.out.later hB)
  have B8 := Lib.hid (B7.out.trans (hB.mono B7.out.size))
  have H1_8 := Lib.hid ((hB.block _ (lt_of_block H1_7.out)).trans H1_7.out)
  clear hm hO hB M53_7 M54_7 M52_7 B7 H1_7
  obtain ⟨a55, n55, c55, rfl⟩ := M55_8.out.val
  go_wp2_with fail
  refine (leaf_made 1 w8).mono ?_
  rintro e w9 ⟨v56, N56, rfl, hm, hO, hB⟩
  have M56_9 := Lib.hid (show NsM w9 v56 [bare 1 []] from NsM.of (w' := w) hm hO)
  have M52_9 := Lib.hid (M52_8.out.later hB)
  have M55_9 := Lib.hid (M55_8.out.later hB)
  have B9 := Lib.hid (B8.out.trans (hB.mono B8.out.size))
  have H1_9 := Lib.hid ((hB.block _ (lt_of_block H1_8.out)).trans H1_8.out)
  clear hm hO hB M52_8 M55_8 B8 H1_8
  obtain ⟨a56, n56, c56, rfl⟩ := M56_9.out.val
  go_wp2_with fail
  refine (first_m _ _ _ _ w9 M55_9.out M56_9.out (by kernel_rfl) (by kernel_rfl)).mono ?_
  rintro e w10 ⟨v57, N57, rfl, hm, hO, hB⟩
  have M57_10 := Lib.hid (show NsM w10 v57 (ofN 7 [(ofN 6 [[callN 0 0], [wordN ⟨#[98]⟩]]), [bare 1 []]]) from NsM.of (w' := w) hm hO)
  have M52_10 := Lib.hid (M52_9.out.later hB)
  have B10 := Lib.hid (B9.out.trans (hB.mono B9.out.size))
  have H1_10 := Lib.hid ((hB.block _ (lt_of_block H1_9.out)).trans H1_9.out)
  clear hm hO hB M55_9 M56_9 M52_9 B9 H1_9
  obtain ⟨a57, n57, c57, rfl⟩ := M57_10.out.val
  have HN11 := Lib.hid (one_new w10 (.cells #[.slice a52 n52 c52, .slice a57 n57 c57] 25 (0, 0)))
  go_wp2_with fail
  refine (gram_m w10.heap.size [.slice a52 n52 c52, .slice a57 n57 c57] [(ofN 7 [(ofN 6 [[callN 1 0], [callN 0 0]]), [wordN ⟨#[97]⟩]]), (ofN 7 [(ofN 6 [[callN 0 0], [wordN ⟨#[98]⟩]]), [bare 1 []]])] _ HN11.out.2 ⟨M52_10.out.later HN11.out.1, (by kernel_rfl), M57_10.out.later HN11.out.1, (by kernel_rfl), trivial⟩ (by simp)).mono ?_
  rintro e w11 ⟨rv, nv, N, rfl, hm, hR, hO, hB⟩
  replace hB := HN11.out.1.trans (hB.mono HN11.out.1.size)
  have B11 := Lib.hid (B10.out.trans (hB.mono B10.out.size))
  have H1_11 := Lib.hid ((hB.block _ (lt_of_block H1_10.out)).trans H1_10.out)
  have hb2 : w.heap.size ≤ w10.heap.size := B10.out.size
  have hb3 := HN11.out.1.size
  have HR := Lib.hid (ownsRow_base hR (Nat.le_trans hb2 hb3))
  have HO := Lib.hid (hO.base_le (Nat.le_trans hb2 hb3))
  have HM := Lib.hid hm
  clear hm hR hO hB hb2 hb3 M52_10 M57_10 B10 H1_10
  obtain ⟨ra, rc, rfl⟩ := own_val HR.out
  obtain ⟨na, nc, hnv⟩ := own_val HO.out.row
  subst hnv
  obtain ⟨nl, hnl⟩ : ∃ nl, nl = N.length := ⟨_, rfl⟩
  have HNl := Lib.hid hnl
  rw [← hnl] at HO ⊢
  clear hnl
  obtain ⟨u0, u1, e0, e1⟩ := box_cells H1_11.out
  go_wp2
  obtain ⟨k2, hk2⟩ := set2g H1_11.out (.slice ra 2 rc) (.slice na nl nc)
  obtain ⟨q0, q1, -, -⟩ := box_cells k2
  exact bodyPost_ret (v := .agg #[.slice ra 2 rc, .slice na nl nc]) (by simp [results, Try.f14, go_sem, q0, q1]) rfl ⟨_, _, N, rfl, HM.out, Keeps.row hk2 HR.out (fun k e => own_off HR.out H1_11.out (by decide) k e), HO.out.off H1_11.out hk2, B11.out.trans (Keeps.one_below hk2 B11.out.size (Nat.le_of_eq HX.out.symm))⟩
set_option maxRecDepth 100000 in
set_option maxHeartbeats 4000000 in
theorem known_7 (n : Int) (w : World) (hk : pickN n 12 = 7) : Calls Try.prog 14 #[.int .i64 n] w (GrPost kn7 w) := by
  go_enter Try.func14, Try.ntmps14
  go_upto_region 1 with (fail)
  refine gen_world (S := fun u => Below w.heap.size w u ∧ u.heap[w.heap.size]? = some (.cells #[.slice none 0 0, .slice none 0 0] 27 (0, 0))) (one_new w _) (fun u hu => ?_)
  obtain ⟨hb, h1⟩ := hu
  have B0 := Lib.hid hb
  have H1 := Lib.hid h1
  obtain ⟨X, hX⟩ : ∃ X, X = w.heap.size := ⟨_, rfl⟩
  have HX := Lib.hid hX
  rw [← hX] at H1 ⊢
  clear hb h1 hX
  go_wp2_with fail
  refine (pick_any u n 12 (by omega) (by omega)).mono ?_
  rintro e u' ⟨rfl, rfl⟩
  rw [hk]
  clear hk
  go_wp2_with fail
  refine (call_made 0 0 u).mono ?_
  rintro e w1 ⟨v98, N98, rfl, hm, hO, hB⟩
  have M98_1 := Lib.hid (show NsM w1 v98 [callN 0 0] from NsM.of (w' := w) hm hO)
  have B1 := Lib.hid (B0.out.trans (hB.mono B0.out.size))
  have H1_1 := Lib.hid ((hB.block _ (lt_of_block H1.out)).trans H1.out)
  clear hm hO hB B0 H1
  obtain ⟨a98, n98, c98, rfl⟩ := M98_1.out.val
  go_wp2_with fail
  refine (call_made 0 0 w1).mono ?_
  rintro e w2 ⟨v99, N99, rfl, hm, hO, hB⟩
  have M99_2 := Lib.hid (show NsM w2 v99 [callN 0 0] from NsM.of (w' := w) hm hO)
  have M98_2 := Lib.hid (M98_1.out.later hB)
  have B2 := Lib.hid (B1.out.trans (hB.mono B1.out.size))
  have H1_2 := Lib.hid ((hB.block _ (lt_of_block H1_1.out)).trans H1_1.out)
  clear hm hO hB M98_1 B1 H1_1
  obtain ⟨a99, n99, c99, rfl⟩ := M99_2.out.val
  go_wp2_with fail
  refine (chain_m _ _ _ _ w2 M98_2.out M99_2.out (by kernel_rfl) (by kernel_rfl)).mono ?_
  rintro e w3 ⟨v100, N100, rfl, hm, hO, hB⟩
  have M100_3 := Lib.hid (show NsM w3 v100 (ofN 6 [[callN 0 0], [callN 0 0]]) from NsM.of (w' := w) hm hO)
  have B3 := Lib.hid (B2.out.trans (hB.mono B2.out.size))
  have H1_3 := Lib.hid ((hB.block _ (lt_of_block H1_2.out)).trans H1_2.out)
  clear hm hO hB M98_2 M99_2 B2 H1_2
  obtain ⟨a100, n100, c100, rfl⟩ := M100_3.out.val
  go_wp2_with fail
  refine (word_made ⟨#[97]⟩ w3).mono ?_
  rintro e w4 ⟨v101, N101, rfl, hm, hO, hB⟩
  have M101_4 := Lib.hid (show NsM w4 v101 [wordN ⟨#[97]⟩] from NsM.of (w' := w) hm hO)
  have M100_4 := Lib.hid (M100_3.out.later hB)
  have B4 := Lib.hid (B3.out.trans (hB.mono B3.out.size))
  have H1_4 := Lib.hid ((hB.block _ (lt_of_block H1_3.out)).trans H1_3.out)
  clear hm hO hB M100_3 B3 H1_3
  obtain ⟨a101, n101, c101, rfl⟩ := M101_4.out.val
  go_wp2_with fail
  refine (word_made ⟨#[98]⟩ w4).mono ?_
  rintro e w5 ⟨v102, N102, rfl, hm, hO, hB⟩
  have M102_5 := Lib.hid (show NsM w5 v102 [wordN ⟨#[98]⟩] from NsM.of (w' := w) hm hO)
  have M100_5 := Lib.hid (M100_4.out.later hB)
  have M101_5 := Lib.hid (M101_4.out.later hB)
  have B5 := Lib.hid (B4.out.trans (hB.mono B4.out.size))
  have H1_5 := Lib.hid ((hB.block _ (lt_of_block H1_4.out)).trans H1_4.out)
  clear hm hO hB M100_4 M101_4 B4 H1_4
  obtain ⟨a102, n102, c102, rfl⟩ := M102_5.out.val
  have HN6 := Lib.hid (one_new w5 (.cells #[.slice a100 n100 c100, .slice a101 n101 c101, .slice a102 n102 c102] 25 (0, 0)))
  go_wp2_with fail
  refine (of_m 7 w5.heap.size [.slice a100 n100 c100, .slice a101 n101 c101, .slice a102 n102 c102] [(ofN 6 [[callN 0 0], [callN 0 0]]), [wordN ⟨#[97]⟩], [wordN ⟨#[98]⟩]] _ HN6.out.2 ⟨M100_5.out.later HN6.out.1, (by kernel_rfl), M101_5.out.later HN6.out.1, (by kernel_rfl), M102_5.out.later HN6.out.1, (by kernel_rfl), trivial⟩ (by simp)).mono ?_
  rintro e w6 ⟨v104, N104, rfl, hm, hO, hB⟩
  replace hB := HN6.out.1.trans (hB.mono HN6.out.1.size)
  have M104_6 := Lib.hid (show NsM w6 v104 (ofN 7 [(ofN 6 [[callN 0 0], [callN 0 0]]), [wordN ⟨#[97]⟩], [wordN ⟨#[98]⟩]]) from NsM.of (w' := w) hm hO)
  have B6 := Lib.hid (B5.out.trans (hB.mono B5.out.size))
  have H1_6 := Lib.hid ((hB.block _ (lt_of_block H1_5.out)).trans H1_5.out)
  clear hm hO hB M100_5 M101_5 M102_5 B5 H1_5
  obtain ⟨a104, n104, c104, rfl⟩ := M104_6.out.val
  have HN7 := Lib.hid (one_new w6 (.cells #[.slice a104 n104 c104] 25 (0, 0)))
  go_wp2_with fail
  refine (gram_m w6.heap.size [.slice a104 n104 c104] [(ofN 7 [(ofN 6 [[callN 0 0], [callN 0 0]]), [wordN ⟨#[97]⟩], [wordN ⟨#[98]⟩]])] _ HN7.out.2 ⟨M104_6.out.later HN7.out.1, (by kernel_rfl), trivial⟩ (by simp)).mono ?_
  rintro e w7 ⟨rv, nv, N, rfl, hm, hR, hO, hB⟩
  replace hB := HN7.out.1.trans (hB.mono HN7.out.1.size)
  have B7 := Lib.hid (B6.out.trans (hB.mono B6.out.size))
  have H1_7 := Lib.hid ((hB.block _ (lt_of_block H1_6.out)).trans H1_6.out)
  have hb2 : w.heap.size ≤ w6.heap.size := B6.out.size
  have hb3 := HN7.out.1.size
  have HR := Lib.hid (ownsRow_base hR (Nat.le_trans hb2 hb3))
  have HO := Lib.hid (hO.base_le (Nat.le_trans hb2 hb3))
  have HM := Lib.hid hm
  clear hm hR hO hB hb2 hb3 M104_6 B6 H1_6
  obtain ⟨ra, rc, rfl⟩ := own_val HR.out
  obtain ⟨na, nc, hnv⟩ := own_val HO.out.row
  subst hnv
  obtain ⟨nl, hnl⟩ : ∃ nl, nl = N.length := ⟨_, rfl⟩
  have HNl := Lib.hid hnl
  rw [← hnl] at HO ⊢
  clear hnl
  obtain ⟨u0, u1, e0, e1⟩ := box_cells H1_7.out
  go_wp2
  obtain ⟨k2, hk2⟩ := set2g H1_7.out (.slice ra 1 rc) (.slice na nl nc)
  obtain ⟨q0, q1, -, -⟩ := box_cells k2
  exact bodyPost_ret (v := .agg #[.slice ra 1 rc, .slice na nl nc]) (by simp [results, Try.f14, go_sem, q0, q1]) rfl ⟨_, _, N, rfl, HM.out, Keeps.row hk2 HR.out (fun k e => own_off HR.out H1_7.out (by decide) k e), HO.out.off H1_7.out hk2, B7.out.trans (Keeps.one_below hk2 B7.out.size (Nat.le_of_eq HX.out.symm))⟩
end Go.Proofs.Ytkimkghldilliaa
namespace Go.Proofs.Ytkimkghldilliaa
open Go.RowKit Go.Lib

set_option maxRecDepth 100000 in
set_option maxHeartbeats 4000000 in
theorem known_5 (n : Int) (w : World) (hk : pickN n 12 = 5) : Calls Try.prog 14 #[.int .i64 n] w (GrPost kn5 w) := by
  go_enter Try.func14, Try.ntmps14
  go_upto_region 1 with (fail)
  refine gen_world (S := fun u => Below w.heap.size w u ∧ u.heap[w.heap.size]? = some (.cells #[.slice none 0 0, .slice none 0 0] 27 (0, 0))) (one_new w _) (fun u hu => ?_)
  obtain ⟨hb, h1⟩ := hu
  have B0 := Lib.hid hb
  have H1 := Lib.hid h1
  obtain ⟨X, hX⟩ : ∃ X, X = w.heap.size := ⟨_, rfl⟩
  have HX := Lib.hid hX
  rw [← hX] at H1 ⊢
  clear hb h1 hX
  go_wp2_with fail
  refine (pick_any u n 12 (by omega) (by omega)).mono ?_
  rintro e u' ⟨rfl, rfl⟩
  rw [hk]
  clear hk
  go_wp2_with fail
  refine (call_made 0 0 u).mono ?_
  rintro e w1 ⟨v62, N62, rfl, hm, hO, hB⟩
  have M62_1 := Lib.hid (show NsM w1 v62 [callN 0 0] from NsM.of (w' := w) hm hO)
  have B1 := Lib.hid (B0.out.trans (hB.mono B0.out.size))
  have H1_1 := Lib.hid ((hB.block _ (lt_of_block H1.out)).trans H1.out)
  clear hm hO hB B0 H1
  obtain ⟨a62, n62, c62, rfl⟩ := M62_1.out.val
  go_wp2_with fail
  refine (in_m 11 _ _ w1 M62_1.out (by kernel_rfl)).mono ?_
  rintro e w2 ⟨v63, N63, rfl, hm, hO, hB⟩
  have M63_2 := Lib.hid (show NsM w2 v63 (ofN 11 [[callN 0 0]]) from NsM.of (w' := w) hm hO)
  have B2 := Lib.hid (B1.out.trans (hB.mono B1.out.size))
  have H1_2 := Lib.hid ((hB.block _ (lt_of_block H1_1.out)).trans H1_1.out)
  clear hm hO hB M62_1 B1 H1_1
  obtain ⟨a63, n63, c63, rfl⟩ := M63_2.out.val
  go_wp2_with fail
  refine (word_made ⟨#[97]⟩ w2).mono ?_
  rintro e w3 ⟨v64, N64, rfl, hm, hO, hB⟩
  have M64_3 := Lib.hid (show NsM w3 v64 [wordN ⟨#[97]⟩] from NsM.of (w' := w) hm hO)
  have M63_3 := Lib.hid (M63_2.out.later hB)
  have B3 := Lib.hid (B2.out.trans (hB.mono B2.out.size))
  have H1_3 := Lib.hid ((hB.block _ (lt_of_block H1_2.out)).trans H1_2.out)
  clear hm hO hB M63_2 B2 H1_2
  obtain ⟨a64, n64, c64, rfl⟩ := M64_3.out.val
  go_wp2_with fail
  refine (chain_m _ _ _ _ w3 M63_3.out M64_3.out (by kernel_rfl) (by kernel_rfl)).mono ?_
  rintro e w4 ⟨v65, N65, rfl, hm, hO, hB⟩
  have M65_4 := Lib.hid (show NsM w4 v65 (ofN 6 [(ofN 11 [[callN 0 0]]), [wordN ⟨#[97]⟩]]) from NsM.of (w' := w) hm hO)
  have B4 := Lib.hid (B3.out.trans (hB.mono B3.out.size))
  have H1_4 := Lib.hid ((hB.block _ (lt_of_block H1_3.out)).trans H1_3.out)
  clear hm hO hB M63_3 M64_3 B3 H1_3
  obtain ⟨a65, n65, c65, rfl⟩ := M65_4.out.val
  go_wp2_with fail
  refine (call_made 0 0 w4).mono ?_
  rintro e w5 ⟨v66, N66, rfl, hm, hO, hB⟩
  have M66_5 := Lib.hid (show NsM w5 v66 [callN 0 0] from NsM.of (w' := w) hm hO)
  have M65_5 := Lib.hid (M65_4.out.later hB)
  have B5 := Lib.hid (B4.out.trans (hB.mono B4.out.size))
  have H1_5 := Lib.hid ((hB.block _ (lt_of_block H1_4.out)).trans H1_4.out)
  clear hm hO hB M65_4 B4 H1_4
  obtain ⟨a66, n66, c66, rfl⟩ := M66_5.out.val
  go_wp2_with fail
  refine (word_made ⟨#[98]⟩ w5).mono ?_
  rintro e w6 ⟨v67, N67, rfl, hm, hO, hB⟩
  have M67_6 := Lib.hid (show NsM w6 v67 [wordN ⟨#[98]⟩] from NsM.of (w' := w) hm hO)
  have M65_6 := Lib.hid (M65_5.out.later hB)
  have M66_6 := Lib.hid (M66_5.out.later hB)
  have B6 := Lib.hid (B5.out.trans (hB.mono B5.out.size))
  have H1_6 := Lib.hid ((hB.block _ (lt_of_block H1_5.out)).trans H1_5.out)
  clear hm hO hB M65_5 M66_5 B5 H1_5
  obtain ⟨a67, n67, c67, rfl⟩ := M67_6.out.val
  go_wp2_with fail
  refine (chain_m _ _ _ _ w6 M66_6.out M67_6.out (by kernel_rfl) (by kernel_rfl)).mono ?_
  rintro e w7 ⟨v68, N68, rfl, hm, hO, hB⟩
  have M68_7 := Lib.hid (show NsM w7 v68 (ofN 6 [[callN 0 0], [wordN ⟨#[98]⟩]]) from NsM.of (w' := w) hm hO)
  have M65_7 := Lib.hid (M65_6.out.later hB)
  have B7 := Lib.hid (B6.out.trans (hB.mono B6.out.size))
  have H1_7 := Lib.hid ((hB.block _ (lt_of_block H1_6.out)).trans H1_6.out)
  clear hm hO hB M66_6 M67_6 M65_6 B6 H1_6
  obtain ⟨a68, n68, c68, rfl⟩ := M68_7.out.val
  go_wp2_with fail
  refine (word_made ⟨#[97]⟩ w7).mono ?_
  rintro e w8 ⟨v69, N69, rfl, hm, hO, hB⟩
  have M69_8 := Lib.hid (show NsM w8 v69 [wordN ⟨#[97]⟩] from NsM.of (w' := w) hm hO)
  have M65_8 := Lib.hid (M65_7.out.later hB)
  have M68_8 := Lib.hid (M68_7.out.later hB)
  have B8 := Lib.hid (B7.out.trans (hB.mono B7.out.size))
  have H1_8 := Lib.hid ((hB.block _ (lt_of_block H1_7.out)).trans H1_7.out)
  clear hm hO hB M65_7 M68_7 B7 H1_7
  obtain ⟨a69, n69, c69, rfl⟩ := M69_8.out.val
  go_wp2_with fail
  refine (in_m 12 _ _ w8 M69_8.out (by kernel_rfl)).mono ?_
  rintro e w9 ⟨v70, N70, rfl, hm, hO, hB⟩
  have M70_9 := Lib.hid (show NsM w9 v70 (ofN 12 [[wordN ⟨#[97]⟩]]) from NsM.of (w' := w) hm hO)
  have M65_9 := Lib.hid (M65_8.out.later hB)
  have M68_9 := Lib.hid (M68_8.out.later hB)
  have B9 := Lib.hid (B8.out.trans (hB.mono B8.out.size))
  have H1_9 := Lib.hid ((hB.block _ (lt_of_block H1_8.out)).trans H1_8.out)
  clear hm hO hB M69_8 M65_8 M68_8 B8 H1_8
  obtain ⟨a70, n70, c70, rfl⟩ := M70_9.out.val
  go_wp2_with fail
  refine (leaf_made 2 w9).mono ?_
  rintro e w10 ⟨v71, N71, rfl, hm, hO, hB⟩
  have M71_10 := Lib.hid (show NsM w10 v71 [bare 2 []] from NsM.of (w' := w) hm hO)
  have M65_10 := Lib.hid (M65_9.out.later hB)
  have M68_10 := Lib.hid (M68_9.out.later hB)
  have M70_10 := Lib.hid (M70_9.out.later hB)
  have B10 := Lib.hid (B9.out.trans (hB.mono B9.out.size))
  have H1_10 := Lib.hid ((hB.block _ (lt_of_block H1_9.out)).trans H1_9.out)
  clear hm hO hB M65_9 M68_9 M70_9 B9 H1_9
  obtain ⟨a71, n71, c71, rfl⟩ := M71_10.out.val
  go_wp2_with fail
  refine (chain_m _ _ _ _ w10 M70_10.out M71_10.out (by kernel_rfl) (by kernel_rfl)).mono ?_
  rintro e w11 ⟨v72, N72, rfl, hm, hO, hB⟩
  have M72_11 := Lib.hid (show NsM w11 v72 (ofN 6 [(ofN 12 [[wordN ⟨#[97]⟩]]), [bare 2 []]]) from NsM.of (w' := w) hm hO)
  have M65_11 := Lib.hid (M65_10.out.later hB)
  have M68_11 := Lib.hid (M68_10.out.later hB)
  have B11 := Lib.hid (B10.out.trans (hB.mono B10.out.size))
  have H1_11 := Lib.hid ((hB.block _ (lt_of_block H1_10.out)).trans H1_10.out)
  clear hm hO hB M70_10 M71_10 M65_10 M68_10 B10 H1_10
  obtain ⟨a72, n72, c72, rfl⟩ := M72_11.out.val
  have HN12 := Lib.hid (one_new w11 (.cells #[.slice a65 n65 c65, .slice a68 n68 c68, .slice a72 n72 c72] 25 (0, 0)))
  go_wp2_with fail
  refine (of_m 7 w11.heap.size [.slice a65 n65 c65, .slice a68 n68 c68, .slice a72 n72 c72] [(ofN 6 [(ofN 11 [[callN 0 0]]), [wordN ⟨#[97]⟩]]), (ofN 6 [[callN 0 0], [wordN ⟨#[98]⟩]]), (ofN 6 [(ofN 12 [[wordN ⟨#[97]⟩]]), [bare 2 []]])] _ HN12.out.2 ⟨M65_11.out.later HN12.out.1, (by kernel_rfl), M68_11.out.later HN12.out.1, (by kernel_rfl), M72_11.out.later HN12.out.1, (by kernel_rfl), trivial⟩ (by simp)).mono ?_
  rintro e w12 ⟨v74, N74, rfl, hm, hO, hB⟩
  replace hB := HN12.out.1.trans (hB.mono HN12.out.1.size)
  have M74_12 := Lib.hid (show NsM w12 v74 (ofN 7 [(ofN 6 [(ofN 11 [[callN 0 0]]), [wordN ⟨#[97]⟩]]), (ofN 6 [[callN 0 0], [wordN ⟨#[98]⟩]]), (ofN 6 [(ofN 12 [[wordN ⟨#[97]⟩]]), [bare 2 []]])]) from NsM.of (w' := w) hm hO)
  have B12 := Lib.hid (B11.out.trans (hB.mono B11.out.size))
  have H1_12 := Lib.hid ((hB.block _ (lt_of_block H1_11.out)).trans H1_11.out)
  clear hm hO hB M65_11 M68_11 M72_11 B11 H1_11
  obtain ⟨a74, n74, c74, rfl⟩ := M74_12.out.val
  have HN13 := Lib.hid (one_new w12 (.cells #[.slice a74 n74 c74] 25 (0, 0)))
  go_wp2_with fail
  refine (gram_m w12.heap.size [.slice a74 n74 c74] [(ofN 7 [(ofN 6 [(ofN 11 [[callN 0 0]]), [wordN ⟨#[97]⟩]]), (ofN 6 [[callN 0 0], [wordN ⟨#[98]⟩]]), (ofN 6 [(ofN 12 [[wordN ⟨#[97]⟩]]), [bare 2 []]])])] _ HN13.out.2 ⟨M74_12.out.later HN13.out.1, (by kernel_rfl), trivial⟩ (by simp)).mono ?_
  rintro e w13 ⟨rv, nv, N, rfl, hm, hR, hO, hB⟩
  replace hB := HN13.out.1.trans (hB.mono HN13.out.1.size)
  have B13 := Lib.hid (B12.out.trans (hB.mono B12.out.size))
  have H1_13 := Lib.hid ((hB.block _ (lt_of_block H1_12.out)).trans H1_12.out)
  have hb2 : w.heap.size ≤ w12.heap.size := B12.out.size
  have hb3 := HN13.out.1.size
  have HR := Lib.hid (ownsRow_base hR (Nat.le_trans hb2 hb3))
  have HO := Lib.hid (hO.base_le (Nat.le_trans hb2 hb3))
  have HM := Lib.hid hm
  clear hm hR hO hB hb2 hb3 M74_12 B12 H1_12
  obtain ⟨ra, rc, rfl⟩ := own_val HR.out
  obtain ⟨na, nc, hnv⟩ := own_val HO.out.row
  subst hnv
  obtain ⟨nl, hnl⟩ : ∃ nl, nl = N.length := ⟨_, rfl⟩
  have HNl := Lib.hid hnl
  rw [← hnl] at HO ⊢
  clear hnl
  obtain ⟨u0, u1, e0, e1⟩ := box_cells H1_13.out
  go_wp2
  obtain ⟨k2, hk2⟩ := set2g H1_13.out (.slice ra 1 rc) (.slice na nl nc)
  obtain ⟨q0, q1, -, -⟩ := box_cells k2
  exact bodyPost_ret (v := .agg #[.slice ra 1 rc, .slice na nl nc]) (by simp [results, Try.f14, go_sem, q0, q1]) rfl ⟨_, _, N, rfl, HM.out, Keeps.row hk2 HR.out (fun k e => own_off HR.out H1_13.out (by decide) k e), HO.out.off H1_13.out hk2, B13.out.trans (Keeps.one_below hk2 B13.out.size (Nat.le_of_eq HX.out.symm))⟩
set_option maxRecDepth 100000 in
set_option maxHeartbeats 4000000 in
theorem known_8 (n : Int) (w : World) (hk : pickN n 12 = 8) : Calls Try.prog 14 #[.int .i64 n] w (GrPost kn8 w) := by
  go_enter Try.func14, Try.ntmps14
  go_upto_region 1 with (fail)
  refine gen_world (S := fun u => Below w.heap.size w u ∧ u.heap[w.heap.size]? = some (.cells #[.slice none 0 0, .slice none 0 0] 27 (0, 0))) (one_new w _) (fun u hu => ?_)
  obtain ⟨hb, h1⟩ := hu
  have B0 := Lib.hid hb
  have H1 := Lib.hid h1
  obtain ⟨X, hX⟩ : ∃ X, X = w.heap.size := ⟨_, rfl⟩
  have HX := Lib.hid hX
  rw [← hX] at H1 ⊢
  clear hb h1 hX
  go_wp2_with fail
  refine (pick_any u n 12 (by omega) (by omega)).mono ?_
  rintro e u' ⟨rfl, rfl⟩
  rw [hk]
  clear hk
  go_wp2_with fail
  refine (word_made ⟨#[97]⟩ u).mono ?_
  rintro e w1 ⟨v109, N109, rfl, hm, hO, hB⟩
  have M109_1 := Lib.hid (show NsM w1 v109 [wordN ⟨#[97]⟩] from NsM.of (w' := w) hm hO)
  have B1 := Lib.hid (B0.out.trans (hB.mono B0.out.size))
  have H1_1 := Lib.hid ((hB.block _ (lt_of_block H1.out)).trans H1.out)
  clear hm hO hB B0 H1
  obtain ⟨a109, n109, c109, rfl⟩ := M109_1.out.val
  go_wp2_with fail
  refine (call_made 0 1 w1).mono ?_
  rintro e w2 ⟨v110, N110, rfl, hm, hO, hB⟩
  have M110_2 := Lib.hid (show NsM w2 v110 [callN 0 1] from NsM.of (w' := w) hm hO)
  have M109_2 := Lib.hid (M109_1.out.later hB)
  have B2 := Lib.hid (B1.out.trans (hB.mono B1.out.size))
  have H1_2 := Lib.hid ((hB.block _ (lt_of_block H1_1.out)).trans H1_1.out)
  clear hm hO hB M109_1 B1 H1_1
  obtain ⟨a110, n110, c110, rfl⟩ := M110_2.out.val
  go_wp2_with fail
  refine (chain_m _ _ _ _ w2 M109_2.out M110_2.out (by kernel_rfl) (by kernel_rfl)).mono ?_
  rintro e w3 ⟨v111, N111, rfl, hm, hO, hB⟩
  have M111_3 := Lib.hid (show NsM w3 v111 (ofN 6 [[wordN ⟨#[97]⟩], [callN 0 1]]) from NsM.of (w' := w) hm hO)
  have B3 := Lib.hid (B2.out.trans (hB.mono B2.out.size))
  have H1_3 := Lib.hid ((hB.block _ (lt_of_block H1_2.out)).trans H1_2.out)
  clear hm hO hB M109_2 M110_2 B2 H1_2
  obtain ⟨a111, n111, c111, rfl⟩ := M111_3.out.val
  go_wp2_with fail
  refine (word_made ⟨#[98]⟩ w3).mono ?_
  rintro e w4 ⟨v112, N112, rfl, hm, hO, hB⟩
  have M112_4 := Lib.hid (show NsM w4 v112 [wordN ⟨#[98]⟩] from NsM.of (w' := w) hm hO)
  have M111_4 := Lib.hid (M111_3.out.later hB)
  have B4 := Lib.hid (B3.out.trans (hB.mono B3.out.size))
  have H1_4 := Lib.hid ((hB.block _ (lt_of_block H1_3.out)).trans H1_3.out)
  clear hm hO hB M111_3 B3 H1_3
  obtain ⟨a112, n112, c112, rfl⟩ := M112_4.out.val
  go_wp2_with fail
  refine (first_m _ _ _ _ w4 M111_4.out M112_4.out (by kernel_rfl) (by kernel_rfl)).mono ?_
  rintro e w5 ⟨v113, N113, rfl, hm, hO, hB⟩
  have M113_5 := Lib.hid (show NsM w5 v113 (ofN 7 [(ofN 6 [[wordN ⟨#[97]⟩], [callN 0 1]]), [wordN ⟨#[98]⟩]]) from NsM.of (w' := w) hm hO)
  have B5 := Lib.hid (B4.out.trans (hB.mono B4.out.size))
  have H1_5 := Lib.hid ((hB.block _ (lt_of_block H1_4.out)).trans H1_4.out)
  clear hm hO hB M111_4 M112_4 B4 H1_4
  obtain ⟨a113, n113, c113, rfl⟩ := M113_5.out.val
  have HN6 := Lib.hid (one_new w5 (.cells #[.slice a113 n113 c113] 25 (0, 0)))
  go_wp2_with fail
  refine (gram_m w5.heap.size [.slice a113 n113 c113] [(ofN 7 [(ofN 6 [[wordN ⟨#[97]⟩], [callN 0 1]]), [wordN ⟨#[98]⟩]])] _ HN6.out.2 ⟨M113_5.out.later HN6.out.1, (by kernel_rfl), trivial⟩ (by simp)).mono ?_
  rintro e w6 ⟨rv, nv, N, rfl, hm, hR, hO, hB⟩
  replace hB := HN6.out.1.trans (hB.mono HN6.out.1.size)
  have B6 := Lib.hid (B5.out.trans (hB.mono B5.out.size))
  have H1_6 := Lib.hid ((hB.block _ (lt_of_block H1_5.out)).trans H1_5.out)
  have hb2 : w.heap.size ≤ w5.heap.size := B5.out.size
  have hb3 := HN6.out.1.size
  have HR := Lib.hid (ownsRow_base hR (Nat.le_trans hb2 hb3))
  have HO := Lib.hid (hO.base_le (Nat.le_trans hb2 hb3))
  have HM := Lib.hid hm
  clear hm hR hO hB hb2 hb3 M113_5 B5 H1_5
  obtain ⟨ra, rc, rfl⟩ := own_val HR.out
  obtain ⟨na, nc, hnv⟩ := own_val HO.out.row
  subst hnv
  obtain ⟨nl, hnl⟩ : ∃ nl, nl = N.length := ⟨_, rfl⟩
  have HNl := Lib.hid hnl
  rw [← hnl] at HO ⊢
  clear hnl
  obtain ⟨u0, u1, e0, e1⟩ := box_cells H1_6.out
  go_wp2
  obtain ⟨k2, hk2⟩ := set2g H1_6.out (.slice ra 1 rc) (.slice na nl nc)
  obtain ⟨q0, q1, -, -⟩ := box_cells k2
  exact bodyPost_ret (v := .agg #[.slice ra 1 rc, .slice na nl nc]) (by simp [results, Try.f14, go_sem, q0, q1]) rfl ⟨_, _, N, rfl, HM.out, Keeps.row hk2 HR.out (fun k e => own_off HR.out H1_6.out (by decide) k e), HO.out.off H1_6.out hk2, B6.out.trans (Keeps.one_below hk2 B6.out.size (Nat.le_of_eq HX.out.symm))⟩
end Go.Proofs.Ytkimkghldilliaa
namespace Go.Proofs.Ytkimkghldilliaa
open Go.RowKit Go.Lib

set_option maxRecDepth 100000 in
set_option maxHeartbeats 4000000 in
theorem known_6 (n : Int) (w : World) (hk : pickN n 12 = 6) : Calls Try.prog 14 #[.int .i64 n] w (GrPost kn6 w) := by
  go_enter Try.func14, Try.ntmps14
  go_upto_region 1 with (fail)
  refine gen_world (S := fun u => Below w.heap.size w u ∧ u.heap[w.heap.size]? = some (.cells #[.slice none 0 0, .slice none 0 0] 27 (0, 0))) (one_new w _) (fun u hu => ?_)
  obtain ⟨hb, h1⟩ := hu
  have B0 := Lib.hid hb
  have H1 := Lib.hid h1
  obtain ⟨X, hX⟩ : ∃ X, X = w.heap.size := ⟨_, rfl⟩
  have HX := Lib.hid hX
  rw [← hX] at H1 ⊢
  clear hb h1 hX
  go_wp2_with fail
  refine (pick_any u n 12 (by omega) (by omega)).mono ?_
  rintro e u' ⟨rfl, rfl⟩
  rw [hk]
  clear hk
  go_wp2_with fail
  refine (call_made 1 0 u).mono ?_
  rintro e w1 ⟨v79, N79, rfl, hm, hO, hB⟩
  have M79_1 := Lib.hid (show NsM w1 v79 [callN 1 0] from NsM.of (w' := w) hm hO)
  have B1 := Lib.hid (B0.out.trans (hB.mono B0.out.size))
  have H1_1 := Lib.hid ((hB.block _ (lt_of_block H1.out)).trans H1.out)
  clear hm hO hB B0 H1
  obtain ⟨a79, n79, c79, rfl⟩ := M79_1.out.val
  go_wp2_with fail
  refine (in_m 8 _ _ w1 M79_1.out (by kernel_rfl)).mono ?_
  rintro e w2 ⟨v80, N80, rfl, hm, hO, hB⟩
  have M80_2 := Lib.hid (show NsM w2 v80 (ofN 8 [[callN 1 0]]) from NsM.of (w' := w) hm hO)
  have B2 := Lib.hid (B1.out.trans (hB.mono B1.out.size))
  have H1_2 := Lib.hid ((hB.block _ (lt_of_block H1_1.out)).trans H1_1.out)
  clear hm hO hB M79_1 B1 H1_1
  obtain ⟨a80, n80, c80, rfl⟩ := M80_2.out.val
  go_wp2_with fail
  refine (call_made 2 0 w2).mono ?_
  rintro e w3 ⟨v81, N81, rfl, hm, hO, hB⟩
  have M81_3 := Lib.hid (show NsM w3 v81 [callN 2 0] from NsM.of (w' := w) hm hO)
  have M80_3 := Lib.hid (M80_2.out.later hB)
  have B3 := Lib.hid (B2.out.trans (hB.mono B2.out.size))
  have H1_3 := Lib.hid ((hB.block _ (lt_of_block H1_2.out)).trans H1_2.out)
  clear hm hO hB M80_2 B2 H1_2
  obtain ⟨a81, n81, c81, rfl⟩ := M81_3.out.val
  go_wp2_with fail
  refine (in_m 10 _ _ w3 M81_3.out (by kernel_rfl)).mono ?_
  rintro e w4 ⟨v82, N82, rfl, hm, hO, hB⟩
  have M82_4 := Lib.hid (show NsM w4 v82 (ofN 10 [[callN 2 0]]) from NsM.of (w' := w) hm hO)
  have M80_4 := Lib.hid (M80_3.out.later hB)
  have B4 := Lib.hid (B3.out.trans (hB.mono B3.out.size))
  have H1_4 := Lib.hid ((hB.block _ (lt_of_block H1_3.out)).trans H1_3.out)
  clear hm hO hB M81_3 M80_3 B3 H1_3
  obtain ⟨a82, n82, c82, rfl⟩ := M82_4.out.val
  go_wp2_with fail
  refine (chain_m _ _ _ _ w4 M80_4.out M82_4.out (by kernel_rfl) (by kernel_rfl)).mono ?_
  rintro e w5 ⟨v83, N83, rfl, hm, hO, hB⟩
  have M83_5 := Lib.hid (show NsM w5 v83 (ofN 6 [(ofN 8 [[callN 1 0]]), (ofN 10 [[callN 2 0]])]) from NsM.of (w' := w) hm hO)
  have B5 := Lib.hid (B4.out.trans (hB.mono B4.out.size))
  have H1_5 := Lib.hid ((hB.block _ (lt_of_block H1_4.out)).trans H1_4.out)
  clear hm hO hB M80_4 M82_4 B4 H1_4
  obtain ⟨a83, n83, c83, rfl⟩ := M83_5.out.val
  go_wp2_with fail
  refine (call_made 2 0 w5).mono ?_
  rintro e w6 ⟨v84, N84, rfl, hm, hO, hB⟩
  have M84_6 := Lib.hid (show NsM w6 v84 [callN 2 0] from NsM.of (w' := w) hm hO)
  have M83_6 := Lib.hid (M83_5.out.later hB)
  have B6 := Lib.hid (B5.out.trans (hB.mono B5.out.size))
  have H1_6 := Lib.hid ((hB.block _ (lt_of_block H1_5.out)).trans H1_5.out)
  clear hm hO hB M83_5 B5 H1_5
  obtain ⟨a84, n84, c84, rfl⟩ := M84_6.out.val
  go_wp2_with fail
  refine (word_made ⟨#[98]⟩ w6).mono ?_
  rintro e w7 ⟨v85, N85, rfl, hm, hO, hB⟩
  have M85_7 := Lib.hid (show NsM w7 v85 [wordN ⟨#[98]⟩] from NsM.of (w' := w) hm hO)
  have M83_7 := Lib.hid (M83_6.out.later hB)
  have M84_7 := Lib.hid (M84_6.out.later hB)
  have B7 := Lib.hid (B6.out.trans (hB.mono B6.out.size))
  have H1_7 := Lib.hid ((hB.block _ (lt_of_block H1_6.out)).trans H1_6.out)
  clear hm hO hB M83_6 M84_6 B6 H1_6
  obtain ⟨a85, n85, c85, rfl⟩ := M85_7.out.val
  go_wp2_with fail
  refine (chain_m _ _ _ _ w7 M84_7.out M85_7.out (by kernel_rfl) (by kernel_rfl)).mono ?_
  rintro e w8 ⟨v86, N86, rfl, hm, hO, hB⟩
  have M86_8 := Lib.hid (show NsM w8 v86 (ofN 6 [[callN 2 0], [wordN ⟨#[98]⟩]]) from NsM.of (w' := w) hm hO)
  have M83_8 := Lib.hid (M83_7.out.later hB)
  have B8 := Lib.hid (B7.out.trans (hB.mono B7.out.size))
  have H1_8 := Lib.hid ((hB.block _ (lt_of_block H1_7.out)).trans H1_7.out)
  clear hm hO hB M84_7 M85_7 M83_7 B7 H1_7
  obtain ⟨a86, n86, c86, rfl⟩ := M86_8.out.val
  go_wp2_with fail
  refine (word_made ⟨#[97, 98]⟩ w8).mono ?_
  rintro e w9 ⟨v87, N87, rfl, hm, hO, hB⟩
  have M87_9 := Lib.hid (show NsM w9 v87 [wordN ⟨#[97, 98]⟩] from NsM.of (w' := w) hm hO)
  have M83_9 := Lib.hid (M83_8.out.later hB)
  have M86_9 := Lib.hid (M86_8.out.later hB)
  have B9 := Lib.hid (B8.out.trans (hB.mono B8.out.size))
  have H1_9 := Lib.hid ((hB.block _ (lt_of_block H1_8.out)).trans H1_8.out)
  clear hm hO hB M83_8 M86_8 B8 H1_8
  obtain ⟨a87, n87, c87, rfl⟩ := M87_9.out.val
  go_wp2_with fail
  refine (first_m _ _ _ _ w9 M86_9.out M87_9.out (by kernel_rfl) (by kernel_rfl)).mono ?_
  rintro e w10 ⟨v88, N88, rfl, hm, hO, hB⟩
  have M88_10 := Lib.hid (show NsM w10 v88 (ofN 7 [(ofN 6 [[callN 2 0], [wordN ⟨#[98]⟩]]), [wordN ⟨#[97, 98]⟩]]) from NsM.of (w' := w) hm hO)
  have M83_10 := Lib.hid (M83_9.out.later hB)
  have B10 := Lib.hid (B9.out.trans (hB.mono B9.out.size))
  have H1_10 := Lib.hid ((hB.block _ (lt_of_block H1_9.out)).trans H1_9.out)
  clear hm hO hB M86_9 M87_9 M83_9 B9 H1_9
  obtain ⟨a88, n88, c88, rfl⟩ := M88_10.out.val
  go_wp2_with fail
  refine (call_made 1 0 w10).mono ?_
  rintro e w11 ⟨v89, N89, rfl, hm, hO, hB⟩
  have M89_11 := Lib.hid (show NsM w11 v89 [callN 1 0] from NsM.of (w' := w) hm hO)
  have M83_11 := Lib.hid (M83_10.out.later hB)
  have M88_11 := Lib.hid (M88_10.out.later hB)
  have B11 := Lib.hid (B10.out.trans (hB.mono B10.out.size))
  have H1_11 := Lib.hid ((hB.block _ (lt_of_block H1_10.out)).trans H1_10.out)
  clear hm hO hB M83_10 M88_10 B10 H1_10
  obtain ⟨a89, n89, c89, rfl⟩ := M89_11.out.val
  go_wp2_with fail
  refine (word_made ⟨#[97]⟩ w11).mono ?_
  rintro e w12 ⟨v90, N90, rfl, hm, hO, hB⟩
  have M90_12 := Lib.hid (show NsM w12 v90 [wordN ⟨#[97]⟩] from NsM.of (w' := w) hm hO)
  have M83_12 := Lib.hid (M83_11.out.later hB)
  have M88_12 := Lib.hid (M88_11.out.later hB)
  have M89_12 := Lib.hid (M89_11.out.later hB)
  have B12 := Lib.hid (B11.out.trans (hB.mono B11.out.size))
  have H1_12 := Lib.hid ((hB.block _ (lt_of_block H1_11.out)).trans H1_11.out)
  clear hm hO hB M83_11 M88_11 M89_11 B11 H1_11
  obtain ⟨a90, n90, c90, rfl⟩ := M90_12.out.val
  go_wp2_with fail
  refine (chain_m _ _ _ _ w12 M89_12.out M90_12.out (by kernel_rfl) (by kernel_rfl)).mono ?_
  rintro e w13 ⟨v91, N91, rfl, hm, hO, hB⟩
  have M91_13 := Lib.hid (show NsM w13 v91 (ofN 6 [[callN 1 0], [wordN ⟨#[97]⟩]]) from NsM.of (w' := w) hm hO)
  have M83_13 := Lib.hid (M83_12.out.later hB)
  have M88_13 := Lib.hid (M88_12.out.later hB)
  have B13 := Lib.hid (B12.out.trans (hB.mono B12.out.size))
  have H1_13 := Lib.hid ((hB.block _ (lt_of_block H1_12.out)).trans H1_12.out)
  clear hm hO hB M89_12 M90_12 M83_12 M88_12 B12 H1_12
  obtain ⟨a91, n91, c91, rfl⟩ := M91_13.out.val
  go_wp2_with fail
  refine (among_made w13).mono ?_
  rintro e w14 ⟨v92, N92, rfl, hm, hO, hB⟩
  have M92_14 := Lib.hid (show NsM w14 v92 amongN from NsM.of (w' := w) hm hO)
  have M83_14 := Lib.hid (M83_13.out.later hB)
  have M88_14 := Lib.hid (M88_13.out.later hB)
  have M91_14 := Lib.hid (M91_13.out.later hB)
  have B14 := Lib.hid (B13.out.trans (hB.mono B13.out.size))
  have H1_14 := Lib.hid ((hB.block _ (lt_of_block H1_13.out)).trans H1_13.out)
  clear hm hO hB M83_13 M88_13 M91_13 B13 H1_13
  obtain ⟨a92, n92, c92, rfl⟩ := M92_14.out.val
  go_wp2_with fail
  refine (first_m _ _ _ _ w14 M91_14.out M92_14.out (by kernel_rfl) (by kernel_rfl)).mono ?_
  rintro e w15 ⟨v93, N93, rfl, hm, hO, hB⟩
  have M93_15 := Lib.hid (show NsM w15 v93 (ofN 7 [(ofN 6 [[callN 1 0], [wordN ⟨#[97]⟩]]), amongN]) from NsM.of (w' := w) hm hO)
  have M83_15 := Lib.hid (M83_14.out.later hB)
  have M88_15 := Lib.hid (M88_14.out.later hB)
  have B15 := Lib.hid (B14.out.trans (hB.mono B14.out.size))
  have H1_15 := Lib.hid ((hB.block _ (lt_of_block H1_14.out)).trans H1_14.out)
  clear hm hO hB M91_14 M92_14 M83_14 M88_14 B14 H1_14
  obtain ⟨a93, n93, c93, rfl⟩ := M93_15.out.val
  have HN16 := Lib.hid (one_new w15 (.cells #[.slice a83 n83 c83, .slice a88 n88 c88, .slice a93 n93 c93] 25 (0, 0)))
  go_wp2_with fail
  refine (gram_m w15.heap.size [.slice a83 n83 c83, .slice a88 n88 c88, .slice a93 n93 c93] [(ofN 6 [(ofN 8 [[callN 1 0]]), (ofN 10 [[callN 2 0]])]), (ofN 7 [(ofN 6 [[callN 2 0], [wordN ⟨#[98]⟩]]), [wordN ⟨#[97, 98]⟩]]), (ofN 7 [(ofN 6 [[callN 1 0], [wordN ⟨#[97]⟩]]), amongN])] _ HN16.out.2 ⟨M83_15.out.later HN16.out.1, (by kernel_rfl), M88_15.out.later HN16.out.1, (by kernel_rfl), M93_15.out.later HN16.out.1, (by kernel_rfl), trivial⟩ (by simp)).mono ?_
  rintro e w16 ⟨rv, nv, N, rfl, hm, hR, hO, hB⟩
  replace hB := HN16.out.1.trans (hB.mono HN16.out.1.size)
  have B16 := Lib.hid (B15.out.trans (hB.mono B15.out.size))
  have H1_16 := Lib.hid ((hB.block _ (lt_of_block H1_15.out)).trans H1_15.out)
  have hb2 : w.heap.size ≤ w15.heap.size := B15.out.size
  have hb3 := HN16.out.1.size
  have HR := Lib.hid (ownsRow_base hR (Nat.le_trans hb2 hb3))
  have HO := Lib.hid (hO.base_le (Nat.le_trans hb2 hb3))
  have HM := Lib.hid hm
  clear hm hR hO hB hb2 hb3 M83_15 M88_15 M93_15 B15 H1_15
  obtain ⟨ra, rc, rfl⟩ := own_val HR.out
  obtain ⟨na, nc, hnv⟩ := own_val HO.out.row
  subst hnv
  obtain ⟨nl, hnl⟩ : ∃ nl, nl = N.length := ⟨_, rfl⟩
  have HNl := Lib.hid hnl
  rw [← hnl] at HO ⊢
  clear hnl
  obtain ⟨u0, u1, e0, e1⟩ := box_cells H1_16.out
  go_wp2
  obtain ⟨k2, hk2⟩ := set2g H1_16.out (.slice ra 3 rc) (.slice na nl nc)
  obtain ⟨q0, q1, -, -⟩ := box_cells k2
  exact bodyPost_ret (v := .agg #[.slice ra 3 rc, .slice na nl nc]) (by simp [results, Try.f14, go_sem, q0, q1]) rfl ⟨_, _, N, rfl, HM.out, Keeps.row hk2 HR.out (fun k e => own_off HR.out H1_16.out (by decide) k e), HO.out.off H1_16.out hk2, B16.out.trans (Keeps.one_below hk2 B16.out.size (Nat.le_of_eq HX.out.symm))⟩
end Go.Proofs.Ytkimkghldilliaa
namespace Go.Proofs.Ytkimkghldilliaa
open Go.RowKit Go.Lib

set_option maxRecDepth 100000 in
set_option maxHeartbeats 4000000 in
theorem known_9 (n : Int) (w : World) (hk : pickN n 12 = 9) : Calls Try.prog 14 #[.int .i64 n] w (GrPost kn9 w) := by
  go_enter Try.func14, Try.ntmps14
  go_upto_region 1 with (fail)
  refine gen_world (S := fun u => Below w.heap.size w u ∧ u.heap[w.heap.size]? = some (.cells #[.slice none 0 0, .slice none 0 0] 27 (0, 0))) (one_new w _) (fun u hu => ?_)
  obtain ⟨hb, h1⟩ := hu
  have B0 := Lib.hid hb
  have H1 := Lib.hid h1
  obtain ⟨X, hX⟩ : ∃ X, X = w.heap.size := ⟨_, rfl⟩
  have HX := Lib.hid hX
  rw [← hX] at H1 ⊢
  clear hb h1 hX
  go_wp2_with fail
  refine (pick_any u n 12 (by omega) (by omega)).mono ?_
  rintro e u' ⟨rfl, rfl⟩
  rw [hk]
  clear hk
  go_wp2_with fail
  refine (call_made 1 0 u).mono ?_
  rintro e w1 ⟨v118, N118, rfl, hm, hO, hB⟩
  have M118_1 := Lib.hid (show NsM w1 v118 [callN 1 0] from NsM.of (w' := w) hm hO)
  have B1 := Lib.hid (B0.out.trans (hB.mono B0.out.size))
  have H1_1 := Lib.hid ((hB.block _ (lt_of_block H1.out)).trans H1.out)
  clear hm hO hB B0 H1
  obtain ⟨a118, n118, c118, rfl⟩ := M118_1.out.val
  go_wp2_with fail
  refine (word_made ⟨#[43]⟩ w1).mono ?_
  rintro e w2 ⟨v119, N119, rfl, hm, hO, hB⟩
  have M119_2 := Lib.hid (show NsM w2 v119 [wordN ⟨#[43]⟩] from NsM.of (w' := w) hm hO)
  have M118_2 := Lib.hid (M118_1.out.later hB)
  have B2 := Lib.hid (B1.out.trans (hB.mono B1.out.size))
  have H1_2 := Lib.hid ((hB.block _ (lt_of_block H1_1.out)).trans H1_1.out)
  clear hm hO hB M118_1 B1 H1_1
  obtain ⟨a119, n119, c119, rfl⟩ := M119_2.out.val
  go_wp2_with fail
  refine (chain_m _ _ _ _ w2 M118_2.out M119_2.out (by kernel_rfl) (by kernel_rfl)).mono ?_
  rintro e w3 ⟨v120, N120, rfl, hm, hO, hB⟩
  have M120_3 := Lib.hid (show NsM w3 v120 (ofN 6 [[callN 1 0], [wordN ⟨#[43]⟩]]) from NsM.of (w' := w) hm hO)
  have B3 := Lib.hid (B2.out.trans (hB.mono B2.out.size))
  have H1_3 := Lib.hid ((hB.block _ (lt_of_block H1_2.out)).trans H1_2.out)
  clear hm hO hB M118_2 M119_2 B2 H1_2
  obtain ⟨a120, n120, c120, rfl⟩ := M120_3.out.val
  go_wp2_with fail
  refine (call_made 1 3 w3).mono ?_
  rintro e w4 ⟨v121, N121, rfl, hm, hO, hB⟩
  have M121_4 := Lib.hid (show NsM w4 v121 [callN 1 3] from NsM.of (w' := w) hm hO)
  have M120_4 := Lib.hid (M120_3.out.later hB)
  have B4 := Lib.hid (B3.out.trans (hB.mono B3.out.size))
  have H1_4 := Lib.hid ((hB.block _ (lt_of_block H1_3.out)).trans H1_3.out)
  clear hm hO hB M120_3 B3 H1_3
  obtain ⟨a121, n121, c121, rfl⟩ := M121_4.out.val
  go_wp2_with fail
  refine (word_made ⟨#[42]⟩ w4).mono ?_
  rintro e w5 ⟨v122, N122, rfl, hm, hO, hB⟩
  have M122_5 := Lib.hid (show NsM w5 v122 [wordN ⟨#[42]⟩] from NsM.of (w' := w) hm hO)
  have M120_5 := Lib.hid (M120_4.out.later hB)
  have M121_5 := Lib.hid (M121_4.out.later hB)
  have B5 := Lib.hid (B4.out.trans (hB.mono B4.out.size))
  have H1_5 := Lib.hid ((hB.block _ (lt_of_block H1_4.out)).trans H1_4.out)
  clear hm hO hB M120_4 M121_4 B4 H1_4
  obtain ⟨a122, n122, c122, rfl⟩ := M122_5.out.val
  go_wp2_with fail
  refine (chain_m _ _ _ _ w5 M121_5.out M122_5.out (by kernel_rfl) (by kernel_rfl)).mono ?_
  rintro e w6 ⟨v123, N123, rfl, hm, hO, hB⟩
  have M123_6 := Lib.hid (show NsM w6 v123 (ofN 6 [[callN 1 3], [wordN ⟨#[42]⟩]]) from NsM.of (w' := w) hm hO)
  have M120_6 := Lib.hid (M120_5.out.later hB)
  have B6 := Lib.hid (B5.out.trans (hB.mono B5.out.size))
  have H1_6 := Lib.hid ((hB.block _ (lt_of_block H1_5.out)).trans H1_5.out)
  clear hm hO hB M121_5 M122_5 M120_5 B5 H1_5
  obtain ⟨a123, n123, c123, rfl⟩ := M123_6.out.val
  go_wp2_with fail
  refine (first_m _ _ _ _ w6 M120_6.out M123_6.out (by kernel_rfl) (by kernel_rfl)).mono ?_
  rintro e w7 ⟨v124, N124, rfl, hm, hO, hB⟩
  have M124_7 := Lib.hid (show NsM w7 v124 (ofN 7 [(ofN 6 [[callN 1 0], [wordN ⟨#[43]⟩]]), (ofN 6 [[callN 1 3], [wordN ⟨#[42]⟩]])]) from NsM.of (w' := w) hm hO)
  have B7 := Lib.hid (B6.out.trans (hB.mono B6.out.size))
  have H1_7 := Lib.hid ((hB.block _ (lt_of_block H1_6.out)).trans H1_6.out)
  clear hm hO hB M120_6 M123_6 B6 H1_6
  obtain ⟨a124, n124, c124, rfl⟩ := M124_7.out.val
  go_wp2_with fail
  refine (in_m 8 _ _ w7 M124_7.out (by kernel_rfl)).mono ?_
  rintro e w8 ⟨v125, N125, rfl, hm, hO, hB⟩
  have M125_8 := Lib.hid (show NsM w8 v125 (ofN 8 [(ofN 7 [(ofN 6 [[callN 1 0], [wordN ⟨#[43]⟩]]), (ofN 6 [[callN 1 3], [wordN ⟨#[42]⟩]])])]) from NsM.of (w' := w) hm hO)
  have B8 := Lib.hid (B7.out.trans (hB.mono B7.out.size))
  have H1_8 := Lib.hid ((hB.block _ (lt_of_block H1_7.out)).trans H1_7.out)
  clear hm hO hB M124_7 B7 H1_7
  obtain ⟨a125, n125, c125, rfl⟩ := M125_8.out.val
  go_wp2_with fail
  refine (call_made 1 1 w8).mono ?_
  rintro e w9 ⟨v126, N126, rfl, hm, hO, hB⟩
  have M126_9 := Lib.hid (show NsM w9 v126 [callN 1 1] from NsM.of (w' := w) hm hO)
  have M125_9 := Lib.hid (M125_8.out.later hB)
  have B9 := Lib.hid (B8.out.trans (hB.mono B8.out.size))
  have H1_9 := Lib.hid ((hB.block _ (lt_of_block H1_8.out)).trans H1_8.out)
  clear hm hO hB M125_8 B8 H1_8
  obtain ⟨a126, n126, c126, rfl⟩ := M126_9.out.val
  go_wp2_with fail
  refine (chain_m _ _ _ _ w9 M125_9.out M126_9.out (by kernel_rfl) (by kernel_rfl)).mono ?_
  rintro e w10 ⟨v127, N127, rfl, hm, hO, hB⟩
  have M127_10 := Lib.hid (show NsM w10 v127 (ofN 6 [(ofN 8 [(ofN 7 [(ofN 6 [[callN 1 0], [wordN ⟨#[43]⟩]]), (ofN 6 [[callN 1 3], [wordN ⟨#[42]⟩]])])]), [callN 1 1]]) from NsM.of (w' := w) hm hO)
  have B10 := Lib.hid (B9.out.trans (hB.mono B9.out.size))
  have H1_10 := Lib.hid ((hB.block _ (lt_of_block H1_9.out)).trans H1_9.out)
  clear hm hO hB M125_9 M126_9 B9 H1_9
  obtain ⟨a127, n127, c127, rfl⟩ := M127_10.out.val
  go_wp2_with fail
  refine (word_made ⟨#[97]⟩ w10).mono ?_
  rintro e w11 ⟨v128, N128, rfl, hm, hO, hB⟩
  have M128_11 := Lib.hid (show NsM w11 v128 [wordN ⟨#[97]⟩] from NsM.of (w' := w) hm hO)
  have M127_11 := Lib.hid (M127_10.out.later hB)
  have B11 := Lib.hid (B10.out.trans (hB.mono B10.out.size))
  have H1_11 := Lib.hid ((hB.block _ (lt_of_block H1_10.out)).trans H1_10.out)
  clear hm hO hB M127_10 B10 H1_10
  obtain ⟨a128, n128, c128, rfl⟩ := M128_11.out.val
  go_wp2_with fail
  refine (in_m 9 _ _ w11 M128_11.out (by kernel_rfl)).mono ?_
  rintro e w12 ⟨v129, N129, rfl, hm, hO, hB⟩
  have M129_12 := Lib.hid (show NsM w12 v129 (ofN 9 [[wordN ⟨#[97]⟩]]) from NsM.of (w' := w) hm hO)
  have M127_12 := Lib.hid (M127_11.out.later hB)
  have B12 := Lib.hid (B11.out.trans (hB.mono B11.out.size))
  have H1_12 := Lib.hid ((hB.block _ (lt_of_block H1_11.out)).trans H1_11.out)
  clear hm hO hB M128_11 M127_11 B11 H1_11
  obtain ⟨a129, n129, c129, rfl⟩ := M129_12.out.val
  go_wp2_with fail
  refine (word_made ⟨#[98]⟩ w12).mono ?_
  rintro e w13 ⟨v130, N130, rfl, hm, hO, hB⟩
  have M130_13 := Lib.hid (show NsM w13 v130 [wordN ⟨#[98]⟩] from NsM.of (w' := w) hm hO)
  have M127_13 := Lib.hid (M127_12.out.later hB)
  have M129_13 := Lib.hid (M129_12.out.later hB)
  have B13 := Lib.hid (B12.out.trans (hB.mono B12.out.size))
  have H1_13 := Lib.hid ((hB.block _ (lt_of_block H1_12.out)).trans H1_12.out)
  clear hm hO hB M127_12 M129_12 B12 H1_12
  obtain ⟨a130, n130, c130, rfl⟩ := M130_13.out.val
  go_wp2_with fail
  refine (call_made 2 0 w13).mono ?_
  rintro e w14 ⟨v131, N131, rfl, hm, hO, hB⟩
  have M131_14 := Lib.hid (show NsM w14 v131 [callN 2 0] from NsM.of (w' := w) hm hO)
  have M127_14 := Lib.hid (M127_13.out.later hB)
  have M129_14 := Lib.hid (M129_13.out.later hB)
  have M130_14 := Lib.hid (M130_13.out.later hB)
  have B14 := Lib.hid (B13.out.trans (hB.mono B13.out.size))
  have H1_14 := Lib.hid ((hB.block _ (lt_of_block H1_13.out)).trans H1_13.out)
  clear hm hO hB M127_13 M129_13 M130_13 B13 H1_13
  obtain ⟨a131, n131, c131, rfl⟩ := M131_14.out.val
  go_wp2_with fail
  refine (chain_m _ _ _ _ w14 M130_14.out M131_14.out (by kernel_rfl) (by kernel_rfl)).mono ?_
  rintro e w15 ⟨v132, N132, rfl, hm, hO, hB⟩
  have M132_15 := Lib.hid (show NsM w15 v132 (ofN 6 [[wordN ⟨#[98]⟩], [callN 2 0]]) from NsM.of (w' := w) hm hO)
  have M127_15 := Lib.hid (M127_14.out.later hB)
  have M129_15 := Lib.hid (M129_14.out.later hB)
  have B15 := Lib.hid (B14.out.trans (hB.mono B14.out.size))
  have H1_15 := Lib.hid ((hB.block _ (lt_of_block H1_14.out)).trans H1_14.out)
  clear hm hO hB M130_14 M131_14 M127_14 M129_14 B14 H1_14
  obtain ⟨a132, n132, c132, rfl⟩ := M132_15.out.val
  go_wp2_with fail
  refine (first_m _ _ _ _ w15 M129_15.out M132_15.out (by kernel_rfl) (by kernel_rfl)).mono ?_
  rintro e w16 ⟨v133, N133, rfl, hm, hO, hB⟩
  have M133_16 := Lib.hid (show NsM w16 v133 (ofN 7 [(ofN 9 [[wordN ⟨#[97]⟩]]), (ofN 6 [[wordN ⟨#[98]⟩], [callN 2 0]])]) from NsM.of (w' := w) hm hO)
  have M127_16 := Lib.hid (M127_15.out.later hB)
  have B16 := Lib.hid (B15.out.trans (hB.mono B15.out.size))
  have H1_16 := Lib.hid ((hB.block _ (lt_of_block H1_15.out)).trans H1_15.out)
  clear hm hO hB M129_15 M132_15 M127_15 B15 H1_15
  obtain ⟨a133, n133, c133, rfl⟩ := M133_16.out.val
  go_wp2_with fail
  refine (call_made 0 2 w16).mono ?_
  rintro e w17 ⟨v134, N134, rfl, hm, hO, hB⟩
  have M134_17 := Lib.hid (show NsM w17 v134 [callN 0 2] from NsM.of (w' := w) hm hO)
  have M127_17 := Lib.hid (M127_16.out.later hB)
  have M133_17 := Lib.hid (M133_16.out.later hB)
  have B17 := Lib.hid (B16.out.trans (hB.mono B16.out.size))
  have H1_17 := Lib.hid ((hB.block _ (lt_of_block H1_16.out)).trans H1_16.out)
  clear hm hO hB M127_16 M133_16 B16 H1_16
  obtain ⟨a134, n134, c134, rfl⟩ := M134_17.out.val
  go_wp2_with fail
  refine (leaf_made 1 w17).mono ?_
  rintro e w18 ⟨v135, N135, rfl, hm, hO, hB⟩
  have M135_18 := Lib.hid (show NsM w18 v135 [bare 1 []] from NsM.of (w' := w) hm hO)
  have M127_18 := Lib.hid (M127_17.out.later hB)
  have M133_18 := Lib.hid (M133_17.out.later hB)
  have M134_18 := Lib.hid (M134_17.out.later hB)
  have B18 := Lib.hid (B17.out.trans (hB.mono B17.out.size))
  have H1_18 := Lib.hid ((hB.block _ (lt_of_block H1_17.out)).trans H1_17.out)
  clear hm hO hB M127_17 M133_17 M134_17 B17 H1_17
  obtain ⟨a135, n135, c135, rfl⟩ := M135_18.out.val
  go_wp2_with fail
  refine (first_m _ _ _ _ w18 M134_18.out M135_18.out (by kernel_rfl) (by kernel_rfl)).mono ?_
  rintro e w19 ⟨v136, N136, rfl, hm, hO, hB⟩
  have M136_19 := Lib.hid (show NsM w19 v136 (ofN 7 [[callN 0 2], [bare 1 []]]) from NsM.of (w' := w) hm hO)
  have M127_19 := Lib.hid (M127_18.out.later hB)
  have M133_19 := Lib.hid (M133_18.out.later hB)
  have B19 := Lib.hid (B18.out.trans (hB.mono B18.out.size))
  have H1_19 := Lib.hid ((hB.block _ (lt_of_block H1_18.out)).trans H1_18.out)
  clear hm hO hB M134_18 M135_18 M127_18 M133_18 B18 H1_18
  obtain ⟨a136, n136, c136, rfl⟩ := M136_19.out.val
  have HN20 := Lib.hid (one_new w19 (.cells #[.slice a127 n127 c127, .slice a133 n133 c133, .slice a136 n136 c136] 25 (0, 0)))
  go_wp2_with fail
  refine (gram_m w19.heap.size [.slice a127 n127 c127, .slice a133 n133 c133, .slice a136 n136 c136] [(ofN 6 [(ofN 8 [(ofN 7 [(ofN 6 [[callN 1 0], [wordN ⟨#[43]⟩]]), (ofN 6 [[callN 1 3], [wordN ⟨#[42]⟩]])])]), [callN 1 1]]), (ofN 7 [(ofN 9 [[wordN ⟨#[97]⟩]]), (ofN 6 [[wordN ⟨#[98]⟩], [callN 2 0]])]), (ofN 7 [[callN 0 2], [bare 1 []]])] _ HN20.out.2 ⟨M127_19.out.later HN20.out.1, (by kernel_rfl), M133_19.out.later HN20.out.1, (by kernel_rfl), M136_19.out.later HN20.out.1, (by kernel_rfl), trivial⟩ (by simp)).mono ?_
  rintro e w20 ⟨rv, nv, N, rfl, hm, hR, hO, hB⟩
  replace hB := HN20.out.1.trans (hB.mono HN20.out.1.size)
  have B20 := Lib.hid (B19.out.trans (hB.mono B19.out.size))
  have H1_20 := Lib.hid ((hB.block _ (lt_of_block H1_19.out)).trans H1_19.out)
  have hb2 : w.heap.size ≤ w19.heap.size := B19.out.size
  have hb3 := HN20.out.1.size
  have HR := Lib.hid (ownsRow_base hR (Nat.le_trans hb2 hb3))
  have HO := Lib.hid (hO.base_le (Nat.le_trans hb2 hb3))
  have HM := Lib.hid hm
  clear hm hR hO hB hb2 hb3 M127_19 M133_19 M136_19 B19 H1_19
  obtain ⟨ra, rc, rfl⟩ := own_val HR.out
  obtain ⟨na, nc, hnv⟩ := own_val HO.out.row
  subst hnv
  obtain ⟨nl, hnl⟩ : ∃ nl, nl = N.length := ⟨_, rfl⟩
  have HNl := Lib.hid hnl
  rw [← hnl] at HO ⊢
  clear hnl
  obtain ⟨u0, u1, e0, e1⟩ := box_cells H1_20.out
  go_wp2
  obtain ⟨k2, hk2⟩ := set2g H1_20.out (.slice ra 3 rc) (.slice na nl nc)
  obtain ⟨q0, q1, -, -⟩ := box_cells k2
  exact bodyPost_ret (v := .agg #[.slice ra 3 rc, .slice na nl nc]) (by simp [results, Try.f14, go_sem, q0, q1]) rfl ⟨_, _, N, rfl, HM.out, Keeps.row hk2 HR.out (fun k e => own_off HR.out H1_20.out (by decide) k e), HO.out.off H1_20.out hk2, B20.out.trans (Keeps.one_below hk2 B20.out.size (Nat.le_of_eq HX.out.symm))⟩
end Go.Proofs.Ytkimkghldilliaa
namespace Go.Proofs.Ytkimkghldilliaa
open Go.RowKit Go.Lib

set_option maxRecDepth 100000 in
set_option maxHeartbeats 4000000 in
theorem known_10 (n : Int) (w : World) (hk : pickN n 12 = 10) : Calls Try.prog 14 #[.int .i64 n] w (GrPost kn10 w) := by
  go_enter Try.func14, Try.ntmps14
  go_upto_region 1 with (fail)
  refine gen_world (S := fun u => Below w.heap.size w u ∧ u.heap[w.heap.size]? = some (.cells #[.slice none 0 0, .slice none 0 0] 27 (0, 0))) (one_new w _) (fun u hu => ?_)
  obtain ⟨hb, h1⟩ := hu
  have B0 := Lib.hid hb
  have H1 := Lib.hid h1
  obtain ⟨X, hX⟩ : ∃ X, X = w.heap.size := ⟨_, rfl⟩
  have HX := Lib.hid hX
  rw [← hX] at H1 ⊢
  clear hb h1 hX
  go_wp2_with fail
  refine (pick_any u n 12 (by omega) (by omega)).mono ?_
  rintro e u' ⟨rfl, rfl⟩
  rw [hk]
  clear hk
  go_wp2_with fail
  refine (call_made 1 0 u).mono ?_
  rintro e w1 ⟨v141, N141, rfl, hm, hO, hB⟩
  have M141_1 := Lib.hid (show NsM w1 v141 [callN 1 0] from NsM.of (w' := w) hm hO)
  have B1 := Lib.hid (B0.out.trans (hB.mono B0.out.size))
  have H1_1 := Lib.hid ((hB.block _ (lt_of_block H1.out)).trans H1.out)
  clear hm hO hB B0 H1
  obtain ⟨a141, n141, c141, rfl⟩ := M141_1.out.val
  go_wp2_with fail
  refine (word_made ⟨#[43]⟩ w1).mono ?_
  rintro e w2 ⟨v142, N142, rfl, hm, hO, hB⟩
  have M142_2 := Lib.hid (show NsM w2 v142 [wordN ⟨#[43]⟩] from NsM.of (w' := w) hm hO)
  have M141_2 := Lib.hid (M141_1.out.later hB)
  have B2 := Lib.hid (B1.out.trans (hB.mono B1.out.size))
  have H1_2 := Lib.hid ((hB.block _ (lt_of_block H1_1.out)).trans H1_1.out)
  clear hm hO hB M141_1 B1 H1_1
  obtain ⟨a142, n142, c142, rfl⟩ := M142_2.out.val
  go_wp2_with fail
  refine (call_made 0 0 w2).mono ?_
  rintro e w3 ⟨v143, N143, rfl, hm, hO, hB⟩
  have M143_3 := Lib.hid (show NsM w3 v143 [callN 0 0] from NsM.of (w' := w) hm hO)
  have M141_3 := Lib.hid (M141_2.out.later hB)
  have M142_3 := Lib.hid (M142_2.out.later hB)
  have B3 := Lib.hid (B2.out.trans (hB.mono B2.out.size))
  have H1_3 := Lib.hid ((hB.block _ (lt_of_block H1_2.out)).trans H1_2.out)
  clear hm hO hB M141_2 M142_2 B2 H1_2
  obtain ⟨a143, n143, c143, rfl⟩ := M143_3.out.val
  have HN4 := Lib.hid (one_new w3 (.cells #[.slice a141 n141 c141, .slice a142 n142 c142, .slice a143 n143 c143] 25 (0, 0)))
  go_wp2_with fail
  refine (of_m 6 w3.heap.size [.slice a141 n141 c141, .slice a142 n142 c142, .slice a143 n143 c143] [[callN 1 0], [wordN ⟨#[43]⟩], [callN 0 0]] _ HN4.out.2 ⟨M141_3.out.later HN4.out.1, (by kernel_rfl), M142_3.out.later HN4.out.1, (by kernel_rfl), M143_3.out.later HN4.out.1, (by kernel_rfl), trivial⟩ (by simp)).mono ?_
  rintro e w4 ⟨v145, N145, rfl, hm, hO, hB⟩
  replace hB := HN4.out.1.trans (hB.mono HN4.out.1.size)
  have M145_4 := Lib.hid (show NsM w4 v145 (ofN 6 [[callN 1 0], [wordN ⟨#[43]⟩], [callN 0 0]]) from NsM.of (w' := w) hm hO)
  have B4 := Lib.hid (B3.out.trans (hB.mono B3.out.size))
  have H1_4 := Lib.hid ((hB.block _ (lt_of_block H1_3.out)).trans H1_3.out)
  clear hm hO hB M141_3 M142_3 M143_3 B3 H1_3
  obtain ⟨a145, n145, c145, rfl⟩ := M145_4.out.val
  go_wp2_with fail
  refine (call_made 1 0 w4).mono ?_
  rintro e w5 ⟨v146, N146, rfl, hm, hO, hB⟩
  have M146_5 := Lib.hid (show NsM w5 v146 [callN 1 0] from NsM.of (w' := w) hm hO)
  have M145_5 := Lib.hid (M145_4.out.later hB)
  have B5 := Lib.hid (B4.out.trans (hB.mono B4.out.size))
  have H1_5 := Lib.hid ((hB.block _ (lt_of_block H1_4.out)).trans H1_4.out)
  clear hm hO hB M145_4 B4 H1_4
  obtain ⟨a146, n146, c146, rfl⟩ := M146_5.out.val
  go_wp2_with fail
  refine (first_m _ _ _ _ w5 M145_5.out M146_5.out (by kernel_rfl) (by kernel_rfl)).mono ?_
  rintro e w6 ⟨v147, N147, rfl, hm, hO, hB⟩
  have M147_6 := Lib.hid (show NsM w6 v147 (ofN 7 [(ofN 6 [[callN 1 0], [wordN ⟨#[43]⟩], [callN 0 0]]), [callN 1 0]]) from NsM.of (w' := w) hm hO)
  have B6 := Lib.hid (B5.out.trans (hB.mono B5.out.size))
  have H1_6 := Lib.hid ((hB.block _ (lt_of_block H1_5.out)).trans H1_5.out)
  clear hm hO hB M145_5 M146_5 B5 H1_5
  obtain ⟨a147, n147, c147, rfl⟩ := M147_6.out.val
  go_wp2_with fail
  refine (word_made ⟨#[43]⟩ w6).mono ?_
  rintro e w7 ⟨v148, N148, rfl, hm, hO, hB⟩
  have M148_7 := Lib.hid (show NsM w7 v148 [wordN ⟨#[43]⟩] from NsM.of (w' := w) hm hO)
  have M147_7 := Lib.hid (M147_6.out.later hB)
  have B7 := Lib.hid (B6.out.trans (hB.mono B6.out.size))
  have H1_7 := Lib.hid ((hB.block _ (lt_of_block H1_6.out)).trans H1_6.out)
  clear hm hO hB M147_6 B6 H1_6
  obtain ⟨a148, n148, c148, rfl⟩ := M148_7.out.val
  go_wp2_with fail
  refine (in_m 11 _ _ w7 M148_7.out (by kernel_rfl)).mono ?_
  rintro e w8 ⟨v149, N149, rfl, hm, hO, hB⟩
  have M149_8 := Lib.hid (show NsM w8 v149 (ofN 11 [[wordN ⟨#[43]⟩]]) from NsM.of (w' := w) hm hO)
  have M147_8 := Lib.hid (M147_7.out.later hB)
  have B8 := Lib.hid (B7.out.trans (hB.mono B7.out.size))
  have H1_8 := Lib.hid ((hB.block _ (lt_of_block H1_7.out)).trans H1_7.out)
  clear hm hO hB M148_7 M147_7 B7 H1_7
  obtain ⟨a149, n149, c149, rfl⟩ := M149_8.out.val
  go_wp2_with fail
  refine (leaf_made 2 w8).mono ?_
  rintro e w9 ⟨v150, N150, rfl, hm, hO, hB⟩
  have M150_9 := Lib.hid (show NsM w9 v150 [bare 2 []] from NsM.of (w' := w) hm hO)
  have M147_9 := Lib.hid (M147_8.out.later hB)
  have M149_9 := Lib.hid (M149_8.out.later hB)
  have B9 := Lib.hid (B8.out.trans (hB.mono B8.out.size))
  have H1_9 := Lib.hid ((hB.block _ (lt_of_block H1_8.out)).trans H1_8.out)
  clear hm hO hB M147_8 M149_8 B8 H1_8
  obtain ⟨a150, n150, c150, rfl⟩ := M150_9.out.val
  go_wp2_with fail
  refine (call_made 1 0 w9).mono ?_
  rintro e w10 ⟨v151, N151, rfl, hm, hO, hB⟩
  have M151_10 := Lib.hid (show NsM w10 v151 [callN 1 0] from NsM.of (w' := w) hm hO)
  have M147_10 := Lib.hid (M147_9.out.later hB)
  have M149_10 := Lib.hid (M149_9.out.later hB)
  have M150_10 := Lib.hid (M150_9.out.later hB)
  have B10 := Lib.hid (B9.out.trans (hB.mono B9.out.size))
  have H1_10 := Lib.hid ((hB.block _ (lt_of_block H1_9.out)).trans H1_9.out)
  clear hm hO hB M147_9 M149_9 M150_9 B9 H1_9
  obtain ⟨a151, n151, c151, rfl⟩ := M151_10.out.val
  have HN11 := Lib.hid (one_new w10 (.cells #[.slice a149 n149 c149, .slice a150 n150 c150, .slice a151 n151 c151] 25 (0, 0)))
  go_wp2_with fail
  refine (of_m 6 w10.heap.size [.slice a149 n149 c149, .slice a150 n150 c150, .slice a151 n151 c151] [(ofN 11 [[wordN ⟨#[43]⟩]]), [bare 2 []], [callN 1 0]] _ HN11.out.2 ⟨M149_10.out.later HN11.out.1, (by kernel_rfl), M150_10.out.later HN11.out.1, (by kernel_rfl), M151_10.out.later HN11.out.1, (by kernel_rfl), trivial⟩ (by simp)).mono ?_
  rintro e w11 ⟨v153, N153, rfl, hm, hO, hB⟩
  replace hB := HN11.out.1.trans (hB.mono HN11.out.1.size)
  have M153_11 := Lib.hid (show NsM w11 v153 (ofN 6 [(ofN 11 [[wordN ⟨#[43]⟩]]), [bare 2 []], [callN 1 0]]) from NsM.of (w' := w) hm hO)
  have M147_11 := Lib.hid (M147_10.out.later hB)
  have B11 := Lib.hid (B10.out.trans (hB.mono B10.out.size))
  have H1_11 := Lib.hid ((hB.block _ (lt_of_block H1_10.out)).trans H1_10.out)
  clear hm hO hB M149_10 M150_10 M151_10 M147_10 B10 H1_10
  obtain ⟨a153, n153, c153, rfl⟩ := M153_11.out.val
  go_wp2_with fail
  refine (leaf_made 1 w11).mono ?_
  rintro e w12 ⟨v154, N154, rfl, hm, hO, hB⟩
  have M154_12 := Lib.hid (show NsM w12 v154 [bare 1 []] from NsM.of (w' := w) hm hO)
  have M147_12 := Lib.hid (M147_11.out.later hB)
  have M153_12 := Lib.hid (M153_11.out.later hB)
  have B12 := Lib.hid (B11.out.trans (hB.mono B11.out.size))
  have H1_12 := Lib.hid ((hB.block _ (lt_of_block H1_11.out)).trans H1_11.out)
  clear hm hO hB M147_11 M153_11 B11 H1_11
  obtain ⟨a154, n154, c154, rfl⟩ := M154_12.out.val
  go_wp2_with fail
  refine (first_m _ _ _ _ w12 M153_12.out M154_12.out (by kernel_rfl) (by kernel_rfl)).mono ?_
  rintro e w13 ⟨v155, N155, rfl, hm, hO, hB⟩
  have M155_13 := Lib.hid (show NsM w13 v155 (ofN 7 [(ofN 6 [(ofN 11 [[wordN ⟨#[43]⟩]]), [bare 2 []], [callN 1 0]]), [bare 1 []]]) from NsM.of (w' := w) hm hO)
  have M147_13 := Lib.hid (M147_12.out.later hB)
  have B13 := Lib.hid (B12.out.trans (hB.mono B12.out.size))
  have H1_13 := Lib.hid ((hB.block _ (lt_of_block H1_12.out)).trans H1_12.out)
  clear hm hO hB M153_12 M154_12 M147_12 B12 H1_12
  obtain ⟨a155, n155, c155, rfl⟩ := M155_13.out.val
  have HN14 := Lib.hid (one_new w13 (.cells #[.slice a147 n147 c147, .slice a155 n155 c155] 25 (0, 0)))
  go_wp2_with fail
  refine (gram_m w13.heap.size [.slice a147 n147 c147, .slice a155 n155 c155] [(ofN 7 [(ofN 6 [[callN 1 0], [wordN ⟨#[43]⟩], [callN 0 0]]), [callN 1 0]]), (ofN 7 [(ofN 6 [(ofN 11 [[wordN ⟨#[43]⟩]]), [bare 2 []], [callN 1 0]]), [bare 1 []]])] _ HN14.out.2 ⟨M147_13.out.later HN14.out.1, (by kernel_rfl), M155_13.out.later HN14.out.1, (by kernel_rfl), trivial⟩ (by simp)).mono ?_
  rintro e w14 ⟨rv, nv, N, rfl, hm, hR, hO, hB⟩
  replace hB := HN14.out.1.trans (hB.mono HN14.out.1.size)
  have B14 := Lib.hid (B13.out.trans (hB.mono B13.out.size))
  have H1_14 := Lib.hid ((hB.block _ (lt_of_block H1_13.out)).trans H1_13.out)
  have hb2 : w.heap.size ≤ w13.heap.size := B13.out.size
  have hb3 := HN14.out.1.size
  have HR := Lib.hid (ownsRow_base hR (Nat.le_trans hb2 hb3))
  have HO := Lib.hid (hO.base_le (Nat.le_trans hb2 hb3))
  have HM := Lib.hid hm
  clear hm hR hO hB hb2 hb3 M147_13 M155_13 B13 H1_13
  obtain ⟨ra, rc, rfl⟩ := own_val HR.out
  obtain ⟨na, nc, hnv⟩ := own_val HO.out.row
  subst hnv
  obtain ⟨nl, hnl⟩ : ∃ nl, nl = N.length := ⟨_, rfl⟩
  have HNl := Lib.hid hnl
  rw [← hnl] at HO ⊢
  clear hnl
  obtain ⟨u0, u1, e0, e1⟩ := box_cells H1_14.out
  go_wp2
  obtain ⟨k2, hk2⟩ := set2g H1_14.out (.slice ra 2 rc) (.slice na nl nc)
  obtain ⟨q0, q1, -, -⟩ := box_cells k2
  exact bodyPost_ret (v := .agg #[.slice ra 2 rc, .slice na nl nc]) (by simp [results, Try.f14, go_sem, q0, q1]) rfl ⟨_, _, N, rfl, HM.out, Keeps.row hk2 HR.out (fun k e => own_off HR.out H1_14.out (by decide) k e), HO.out.off H1_14.out hk2, B14.out.trans (Keeps.one_below hk2 B14.out.size (Nat.le_of_eq HX.out.symm))⟩
end Go.Proofs.Ytkimkghldilliaa
namespace Go.Proofs.Ytkimkghldilliaa
open Go.RowKit Go.Lib

set_option maxRecDepth 100000 in
set_option maxHeartbeats 4000000 in
theorem known_11 (n : Int) (w : World) (hk : pickN n 12 = 11) : Calls Try.prog 14 #[.int .i64 n] w (GrPost kn11 w) := by
  go_enter Try.func14, Try.ntmps14
  go_upto_region 1 with (fail)
  refine gen_world (S := fun u => Below w.heap.size w u ∧ u.heap[w.heap.size]? = some (.cells #[.slice none 0 0, .slice none 0 0] 27 (0, 0))) (one_new w _) (fun u hu => ?_)
  obtain ⟨hb, h1⟩ := hu
  have B0 := Lib.hid hb
  have H1 := Lib.hid h1
  obtain ⟨X, hX⟩ : ∃ X, X = w.heap.size := ⟨_, rfl⟩
  have HX := Lib.hid hX
  rw [← hX] at H1 ⊢
  clear hb h1 hX
  go_wp2_with fail
  refine (pick_any u n 12 (by omega) (by omega)).mono ?_
  rintro e u' ⟨rfl, rfl⟩
  rw [hk]
  clear hk
  go_wp2_with fail
  refine (call_made 0 1 u).mono ?_
  rintro e w1 ⟨v158, N158, rfl, hm, hO, hB⟩
  have M158_1 := Lib.hid (show NsM w1 v158 [callN 0 1] from NsM.of (w' := w) hm hO)
  have B1 := Lib.hid (B0.out.trans (hB.mono B0.out.size))
  have H1_1 := Lib.hid ((hB.block _ (lt_of_block H1.out)).trans H1.out)
  clear hm hO hB B0 H1
  obtain ⟨a158, n158, c158, rfl⟩ := M158_1.out.val
  go_wp2_with fail
  refine (call_made 1 1 w1).mono ?_
  rintro e w2 ⟨v159, N159, rfl, hm, hO, hB⟩
  have M159_2 := Lib.hid (show NsM w2 v159 [callN 1 1] from NsM.of (w' := w) hm hO)
  have M158_2 := Lib.hid (M158_1.out.later hB)
  have B2 := Lib.hid (B1.out.trans (hB.mono B1.out.size))
  have H1_2 := Lib.hid ((hB.block _ (lt_of_block H1_1.out)).trans H1_1.out)
  clear hm hO hB M158_1 B1 H1_1
  obtain ⟨a159, n159, c159, rfl⟩ := M159_2.out.val
  go_wp2_with fail
  refine (chain_m _ _ _ _ w2 M158_2.out M159_2.out (by kernel_rfl) (by kernel_rfl)).mono ?_
  rintro e w3 ⟨v160, N160, rfl, hm, hO, hB⟩
  have M160_3 := Lib.hid (show NsM w3 v160 (ofN 6 [[callN 0 1], [callN 1 1]]) from NsM.of (w' := w) hm hO)
  have B3 := Lib.hid (B2.out.trans (hB.mono B2.out.size))
  have H1_3 := Lib.hid ((hB.block _ (lt_of_block H1_2.out)).trans H1_2.out)
  clear hm hO hB M158_2 M159_2 B2 H1_2
  obtain ⟨a160, n160, c160, rfl⟩ := M160_3.out.val
  go_wp2_with fail
  refine (call_made 1 0 w3).mono ?_
  rintro e w4 ⟨v161, N161, rfl, hm, hO, hB⟩
  have M161_4 := Lib.hid (show NsM w4 v161 [callN 1 0] from NsM.of (w' := w) hm hO)
  have M160_4 := Lib.hid (M160_3.out.later hB)
  have B4 := Lib.hid (B3.out.trans (hB.mono B3.out.size))
  have H1_4 := Lib.hid ((hB.block _ (lt_of_block H1_3.out)).trans H1_3.out)
  clear hm hO hB M160_3 B3 H1_3
  obtain ⟨a161, n161, c161, rfl⟩ := M161_4.out.val
  go_wp2_with fail
  refine (first_m _ _ _ _ w4 M160_4.out M161_4.out (by kernel_rfl) (by kernel_rfl)).mono ?_
  rintro e w5 ⟨v162, N162, rfl, hm, hO, hB⟩
  have M162_5 := Lib.hid (show NsM w5 v162 (ofN 7 [(ofN 6 [[callN 0 1], [callN 1 1]]), [callN 1 0]]) from NsM.of (w' := w) hm hO)
  have B5 := Lib.hid (B4.out.trans (hB.mono B4.out.size))
  have H1_5 := Lib.hid ((hB.block _ (lt_of_block H1_4.out)).trans H1_4.out)
  clear hm hO hB M160_4 M161_4 B4 H1_4
  obtain ⟨a162, n162, c162, rfl⟩ := M162_5.out.val
  go_wp2_with fail
  refine (call_made 0 2 w5).mono ?_
  rintro e w6 ⟨v163, N163, rfl, hm, hO, hB⟩
  have M163_6 := Lib.hid (show NsM w6 v163 [callN 0 2] from NsM.of (w' := w) hm hO)
  have M162_6 := Lib.hid (M162_5.out.later hB)
  have B6 := Lib.hid (B5.out.trans (hB.mono B5.out.size))
  have H1_6 := Lib.hid ((hB.block _ (lt_of_block H1_5.out)).trans H1_5.out)
  clear hm hO hB M162_5 B5 H1_5
  obtain ⟨a163, n163, c163, rfl⟩ := M163_6.out.val
  go_wp2_with fail
  refine (word_made ⟨#[97]⟩ w6).mono ?_
  rintro e w7 ⟨v164, N164, rfl, hm, hO, hB⟩
  have M164_7 := Lib.hid (show NsM w7 v164 [wordN ⟨#[97]⟩] from NsM.of (w' := w) hm hO)
  have M162_7 := Lib.hid (M162_6.out.later hB)
  have M163_7 := Lib.hid (M163_6.out.later hB)
  have B7 := Lib.hid (B6.out.trans (hB.mono B6.out.size))
  have H1_7 := Lib.hid ((hB.block _ (lt_of_block H1_6.out)).trans H1_6.out)
  clear hm hO hB M162_6 M163_6 B6 H1_6
  obtain ⟨a164, n164, c164, rfl⟩ := M164_7.out.val
  go_wp2_with fail
  refine (chain_m _ _ _ _ w7 M163_7.out M164_7.out (by kernel_rfl) (by kernel_rfl)).mono ?_
  rintro e w8 ⟨v165, N165, rfl, hm, hO, hB⟩
  have M165_8 := Lib.hid (show NsM w8 v165 (ofN 6 [[callN 0 2], [wordN ⟨#[97]⟩]]) from NsM.of (w' := w) hm hO)
  have M162_8 := Lib.hid (M162_7.out.later hB)
  have B8 := Lib.hid (B7.out.trans (hB.mono B7.out.size))
  have H1_8 := Lib.hid ((hB.block _ (lt_of_block H1_7.out)).trans H1_7.out)
  clear hm hO hB M163_7 M164_7 M162_7 B7 H1_7
  obtain ⟨a165, n165, c165, rfl⟩ := M165_8.out.val
  go_wp2_with fail
  refine (word_made ⟨#[98]⟩ w8).mono ?_
  rintro e w9 ⟨v166, N166, rfl, hm, hO, hB⟩
  have M166_9 := Lib.hid (show NsM w9 v166 [wordN ⟨#[98]⟩] from NsM.of (w' := w) hm hO)
  have M162_9 := Lib.hid (M162_8.out.later hB)
  have M165_9 := Lib.hid (M165_8.out.later hB)
  have B9 := Lib.hid (B8.out.trans (hB.mono B8.out.size))
  have H1_9 := Lib.hid ((hB.block _ (lt_of_block H1_8.out)).trans H1_8.out)
  clear hm hO hB M162_8 M165_8 B8 H1_8
  obtain ⟨a166, n166, c166, rfl⟩ := M166_9.out.val
  go_wp2_with fail
  refine (word_made ⟨#[97]⟩ w9).mono ?_
  rintro e w10 ⟨v167, N167, rfl, hm, hO, hB⟩
  have M167_10 := Lib.hid (show NsM w10 v167 [wordN ⟨#[97]⟩] from NsM.of (w' := w) hm hO)
  have M162_10 := Lib.hid (M162_9.out.later hB)
  have M165_10 := Lib.hid (M165_9.out.later hB)
  have M166_10 := Lib.hid (M166_9.out.later hB)
  have B10 := Lib.hid (B9.out.trans (hB.mono B9.out.size))
  have H1_10 := Lib.hid ((hB.block _ (lt_of_block H1_9.out)).trans H1_9.out)
  clear hm hO hB M162_9 M165_9 M166_9 B9 H1_9
  obtain ⟨a167, n167, c167, rfl⟩ := M167_10.out.val
  have HN11 := Lib.hid (one_new w10 (.cells #[.slice a165 n165 c165, .slice a166 n166 c166, .slice a167 n167 c167] 25 (0, 0)))
  go_wp2_with fail
  refine (of_m 7 w10.heap.size [.slice a165 n165 c165, .slice a166 n166 c166, .slice a167 n167 c167] [(ofN 6 [[callN 0 2], [wordN ⟨#[97]⟩]]), [wordN ⟨#[98]⟩], [wordN ⟨#[97]⟩]] _ HN11.out.2 ⟨M165_10.out.later HN11.out.1, (by kernel_rfl), M166_10.out.later HN11.out.1, (by kernel_rfl), M167_10.out.later HN11.out.1, (by kernel_rfl), trivial⟩ (by simp)).mono ?_
  rintro e w11 ⟨v169, N169, rfl, hm, hO, hB⟩
  replace hB := HN11.out.1.trans (hB.mono HN11.out.1.size)
  have M169_11 := Lib.hid (show NsM w11 v169 (ofN 7 [(ofN 6 [[callN 0 2], [wordN ⟨#[97]⟩]]), [wordN ⟨#[98]⟩], [wordN ⟨#[97]⟩]]) from NsM.of (w' := w) hm hO)
  have M162_11 := Lib.hid (M162_10.out.later hB)
  have B11 := Lib.hid (B10.out.trans (hB.mono B10.out.size))
  have H1_11 := Lib.hid ((hB.block _ (lt_of_block H1_10.out)).trans H1_10.out)
  clear hm hO hB M165_10 M166_10 M167_10 M162_10 B10 H1_10
  obtain ⟨a169, n169, c169, rfl⟩ := M169_11.out.val
  have HN12 := Lib.hid (one_new w11 (.cells #[.slice a162 n162 c162, .slice a169 n169 c169] 25 (0, 0)))
  go_wp2_with fail
  refine (gram_m w11.heap.size [.slice a162 n162 c162, .slice a169 n169 c169] [(ofN 7 [(ofN 6 [[callN 0 1], [callN 1 1]]), [callN 1 0]]), (ofN 7 [(ofN 6 [[callN 0 2], [wordN ⟨#[97]⟩]]), [wordN ⟨#[98]⟩], [wordN ⟨#[97]⟩]])] _ HN12.out.2 ⟨M162_11.out.later HN12.out.1, (by kernel_rfl), M169_11.out.later HN12.out.1, (by kernel_rfl), trivial⟩ (by simp)).mono ?_
  rintro e w12 ⟨rv, nv, N, rfl, hm, hR, hO, hB⟩
  replace hB := HN12.out.1.trans (hB.mono HN12.out.1.size)
  have B12 := Lib.hid (B11.out.trans (hB.mono B11.out.size))
  have H1_12 := Lib.hid ((hB.block _ (lt_of_block H1_11.out)).trans H1_11.out)
  have hb2 : w.heap.size ≤ w11.heap.size := B11.out.size
  have hb3 := HN12.out.1.size
  have HR := Lib.hid (ownsRow_base hR (Nat.le_trans hb2 hb3))
  have HO := Lib.hid (hO.base_le (Nat.le_trans hb2 hb3))
  have HM := Lib.hid hm
  clear hm hR hO hB hb2 hb3 M162_11 M169_11 B11 H1_11
  obtain ⟨ra, rc, rfl⟩ := own_val HR.out
  obtain ⟨na, nc, hnv⟩ := own_val HO.out.row
  subst hnv
  obtain ⟨nl, hnl⟩ : ∃ nl, nl = N.length := ⟨_, rfl⟩
  have HNl := Lib.hid hnl
  rw [← hnl] at HO ⊢
  clear hnl
  obtain ⟨u0, u1, e0, e1⟩ := box_cells H1_12.out
  go_wp2
  obtain ⟨k2, hk2⟩ := set2g H1_12.out (.slice ra 2 rc) (.slice na nl nc)
  obtain ⟨q0, q1, -, -⟩ := box_cells k2
  exact bodyPost_ret (v := .agg #[.slice ra 2 rc, .slice na nl nc]) (by simp [results, Try.f14, go_sem, q0, q1]) rfl ⟨_, _, N, rfl, HM.out, Keeps.row hk2 HR.out (fun k e => own_off HR.out H1_12.out (by decide) k e), HO.out.off H1_12.out hk2, B12.out.trans (Keeps.one_below hk2 B12.out.size (Nat.le_of_eq HX.out.symm))⟩
end Go.Proofs.Ytkimkghldilliaa
namespace Go.Proofs.Ytkimkghldilliaa
open Go.RowKit Go.Lib

theorem known_any (n : Int) (w : World) : Calls Try.prog 14 #[.int .i64 n] w (GrPost (knL (pickN n 12).toNat) w) := by
  obtain ⟨h1, h2⟩ := pickN_range n 12 (by omega)
  obtain ⟨k, hk⟩ : ∃ k : Nat, pickN n 12 = k := ⟨(pickN n 12).toNat, by omega⟩
  have hk2 : k < 12 := by omega
  rw [hk, Int.toNat_natCast]
  match k, hk2, hk with
  | 0, _, hk => exact known_0 n w hk
  | 1, _, hk => exact known_1 n w hk
  | 2, _, hk => exact known_2 n w hk
  | 3, _, hk => exact known_3 n w hk
  | 4, _, hk => exact known_4 n w hk
  | 5, _, hk => exact known_5 n w hk
  | 6, _, hk => exact known_6 n w hk
  | 7, _, hk => exact known_7 n w hk
  | 8, _, hk => exact known_8 n w hk
  | 9, _, hk => exact known_9 n w hk
  | 10, _, hk => exact known_10 n w hk
  | 11, _, hk => exact known_11 n w hk
  | k + 12, h, _ => exact absurd h (by omega)
end Go.Proofs.Ytkimkghldilliaa
