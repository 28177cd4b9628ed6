import Derived.Test.YtkimkghldilliaaLfSm
import Derived.Test.YtkimkghldilliaaAwKm
import Derived.ChangeMaps5
namespace Go.Proofs.Ytkimkghldilliaa
open Go.RowKit Go.Lib

theorem own_get {w : World} {base n size : Nat} {e : TypeId} {xs : List Value} {g cap : Nat} (h : w.ownsRow base e size (.slice (some ⟨g, 0, none⟩) n cap) n xs) {j : Nat} {u : Value} (hu : xs[j]? = some u) :
    w.cell? ⟨g, j, none⟩ = some u ∧ w.frozen? ⟨g, j, none⟩ = false := by
  have hc := h.cells (g := g) rfl j u hu
  have hadd : (⟨g, 0, none⟩ : Addr).add j = ⟨g, j, none⟩ := by unfold Addr.add; split <;> simp_all
  rw [hadd] at hc
  refine ⟨hc, ?_⟩
  rcases h.2 with ⟨h0, _⟩ | ⟨g', cap', cur, hv, hb, hg, _⟩
  · simp at h0
  · simp only [Value.slice.injEq, Option.some.injEq, Addr.mk.injEq, and_true, true_and] at hv
    obtain ⟨rfl, rfl⟩ := hv
    exact (block_cell' hg j).2
def lenV : Value → Nat
  | .slice _ n _ => n
  | _ => 0
def endsL (e0 X : Nat) (k : Nat) : List Int := (List.range (k + 1)).map fun i => ((e0 + i * X : Nat) : Int)
theorem endsL_succ (e0 X k : Nat) : endsL e0 X (k + 1) = endsL e0 X k ++ [((e0 + (k + 1) * X : Nat) : Int)] := by
  simp [endsL, List.range_succ]
theorem endsL_len (e0 X k : Nat) : (endsL e0 X k).length = k + 1 := by simp [endsL]
theorem endsL_get {e0 X k j : Nat} (h : j ≤ k) : (iv (endsL e0 X k))[j]? = some (.int .i64 ((e0 + j * X : Nat) : Int)) := by
  simp [endsL, iv, show j < k + 1 by omega]
set_option maxRecDepth 100000 in
set_option maxHeartbeats 8000000 in
theorem left_walk_miss (x y : ByteArray) (wv : Value) (W : List UInt8) (p : Nat) (lev : Int) (w : World) (hw : BytesAt w wv W) (hx : 1 ≤ x.size ∧ x.size ≤ 64) (hy : 1 ≤ y.size ∧ y.size ≤ 64) (hW : W.length ≤ 200) (hp : p ≤ W.length) (hl : 0 ≤ lev ∧ lev ≤ 99) (hf : frontL y.data.toList (W.drop p) < y.size) :
    Calls Try.prog 3 #[.string x, .string y, wv, .int .i64 p, .int .i64 lev] w fun e w' => e = .returned (.bool true) ∧ Below w.heap.size w w' := by
  have HNd := Lib.hid (leftN_nd x y hx.2 hy.2)
  have HRt := Lib.hid (leftR_right x y hx hy)
  obtain ⟨wa, wc, hwv⟩ := hw.val
  subst hwv
  have HW := Lib.hid hw
  have HX := Lib.hid hx
  have HY := Lib.hid hy
  have HWl := Lib.hid hW
  have HP := Lib.hid hp
  have HL := Lib.hid hl
  obtain ⟨wl, hwl⟩ : ∃ wl, wl = W.length := ⟨_, rfl⟩
  have HWn := Lib.hid hwl
  rw [← hwl] at hp hW HW ⊢
  have h1 : ¬ (x.size : Int) < 1 := by omega
  have h2 : ¬ (x.size : Int) > 64 := by omega
  have h3 : ¬ (y.size : Int) < 1 := by omega
  have h4 : ¬ (y.size : Int) > 64 := by omega
  have h5 : ¬ (wl : Int) > 200 := by omega
  have h6 : ¬ lev < 0 := by omega
  have h7 : ¬ lev > 99 := by omega
  have h8 : ¬ (p : Int) < 0 := by omega
  have h9 : ¬ (p : Int) > (wl : Int) := by omega
  clear hw hx hy hwl
  go_enter Try.func3, Try.ntmps3
  go_wp2_with fail
  refine (awake_any w).mono ?_
  rintro e u ⟨rfl, hb⟩
  have B0 := Lib.hid hb
  have HW0 := Lib.hid (HW.out.later hb)
  clear hb HW
  go_wp2_with fail
  refine (call_made 0 0 u).mono ?_
  rintro e w1 ⟨v65, N65, rfl, hm, hO, hB⟩
  have M65_1 := Lib.hid (show NsM w1 v65 [callN 0 0] from NsM.of (w' := w) hm hO)
  have B1 := Lib.hid (B0.out.trans (hB.mono B0.out.size))
  have HW1 := Lib.hid (HW0.out.later hB)
  clear hm hO hB B0 HW0 
  obtain ⟨a65, n65, c65, rfl⟩ := M65_1.out.val
  go_wp2_with fail
  refine (word_made x w1).mono ?_
  rintro e w2 ⟨v67, N67, rfl, hm, hO, hB⟩
  have M67_2 := Lib.hid (show NsM w2 v67 [wordN x] from NsM.of (w' := w) hm hO)
  have M65_2 := Lib.hid (M65_1.out.later hB)
  have B2 := Lib.hid (B1.out.trans (hB.mono B1.out.size))
  have HW2 := Lib.hid (HW1.out.later hB)
  clear hm hO hB B1 HW1 M65_1
  obtain ⟨a67, n67, c67, rfl⟩ := M67_2.out.val
  go_wp2_with fail
  refine (chain_m _ _ _ _ w2 M65_2.out M67_2.out (by kernel_rfl) (by kernel_rfl)).mono ?_
  rintro e w3 ⟨v68, N68, rfl, hm, hO, hB⟩
  have M68_3 := Lib.hid (show NsM w3 v68 (ofN 6 [[callN 0 0], [wordN x]]) from NsM.of (w' := w) hm hO)
  have B3 := Lib.hid (B2.out.trans (hB.mono B2.out.size))
  have HW3 := Lib.hid (HW2.out.later hB)
  clear hm hO hB B2 HW2 M65_2 M67_2
  obtain ⟨a68, n68, c68, rfl⟩ := M68_3.out.val
  go_wp2_with fail
  refine (word_made y w3).mono ?_
  rintro e w4 ⟨v70, N70, rfl, hm, hO, hB⟩
  have M70_4 := Lib.hid (show NsM w4 v70 [wordN y] from NsM.of (w' := w) hm hO)
  have M68_4 := Lib.hid (M68_3.out.later hB)
  have B4 := Lib.hid (B3.out.trans (hB.mono B3.out.size))
  have HW4 := Lib.hid (HW3.out.later hB)
  clear hm hO hB B3 HW3 M68_3
  obtain ⟨a70, n70, c70, rfl⟩ := M70_4.out.val
  go_wp2_with fail
  refine (first_m _ _ _ _ w4 M68_4.out M70_4.out (by kernel_rfl) (by kernel_rfl)).mono ?_
  rintro e w5 ⟨v71, N71, rfl, hm, hO, hB⟩
  have M71_5 := Lib.hid (show NsM w5 v71 (ofN 7 [(ofN 6 [[callN 0 0], [wordN x]]), [wordN y]]) from NsM.of (w' := w) hm hO)
  have B5 := Lib.hid (B4.out.trans (hB.mono B4.out.size))
  have HW5 := Lib.hid (HW4.out.later hB)
  clear hm hO hB B4 HW4 M68_4 M70_4
  obtain ⟨a71, n71, c71, rfl⟩ := M71_5.out.val
  have HN := Lib.hid (one_new w5 (.cells #[.slice a71 n71 c71] 25 (0, 0)))
  go_wp2_with fail
  refine (gram_m w5.heap.size [.slice a71 n71 c71] (leftLs x y) _ HN.out.2 ⟨M71_5.out.later HN.out.1, (by kernel_rfl), trivial⟩ (by simp)).mono ?_
  rintro e w6 ⟨rv, nv, N, rfl, hm, hR, hO, hB⟩
  replace hB := HN.out.1.trans (hB.mono HN.out.1.size)
  have HM := Lib.hid hm
  have HR := Lib.hid hR
  have HO := Lib.hid hO
  have B6 := Lib.hid (B5.out.trans (hB.mono B5.out.size))
  have HW6 := Lib.hid (HW5.out.later hB)
  clear hm hR hO hB B5 HW5 M71_5
  obtain ⟨ra, rc, hrv⟩ := own_val HR.out
  have hrv2 : rv = .slice ra 1 rc := hrv
  subst hrv2
  clear hrv
  obtain ⟨na, nc, hnv⟩ := own_val HO.out.row
  subst hnv
  obtain ⟨nl, hnl⟩ : ∃ nl, nl = N.length := ⟨_, rfl⟩
  rw [← hnl] at HO ⊢
  clear hnl
  go_upto_region 6 with (fail)
  refine gen_world (S := fun u => Below w6.heap.size w6 u ∧ u.heap[w6.heap.size]? = some (.cells #[.slice ra 1 rc, .slice na nl nc] 27 (0, 0))) (one_new w6 _) (fun u0 hu => ?_)
  obtain ⟨hb, k1⟩ := hu
  have HR0 := Lib.hid (Keeps.row (Keeps.ofNew hb (fun _ => False)) HR.out (fun _ _ => id))
  have HO0 := Lib.hid (HO.out.later hb)
  have BU := Lib.hid (B6.out.trans (hb.mono B6.out.size))
  have HWu := Lib.hid (HW6.out.later hb)
  obtain ⟨G, hG⟩ : ∃ G, G = w6.heap.size := ⟨_, rfl⟩
  rw [← hG] at k1 ⊢
  obtain ⟨v0, v1, -, -⟩ := box_cells k1
  obtain ⟨T, hT⟩ : ∃ T, T = 6 * (W.length + 3) := ⟨_, rfl⟩
  have HT := Lib.hid hT
  rw [← HWn.out] at hT
  have hT1 : IntKind.i64.wrap ((wl : Int) + 3) = (wl : Int) + 3 := IntWalk.i64_in _ (by omega)
  have hT2 : IntKind.i64.wrap (6 * ((wl : Int) + 3)) = (T : Int) := by rw [IntWalk.i64_in _ (by omega)]; omega
  clear hb k1 hG HR HO B6 HW6 hT
  obtain ⟨nf, hnf⟩ : ∃ nf, nf = frontL y.data.toList (W.drop p) := ⟨_, rfl⟩
  rw [← hnf] at hf
  have HNf := Lib.hid hnf
  have HWu0 := HWu
  have HLv := Lib.hid HL.out
  have HPl := Lib.hid (plain_miss (x := x) (y := y) (W := W) (p := p) (T := T) lev (by have := HT.out; omega) (by rw [← hnf]; exact hf))
  rw [← hnf] at HPl
  have HHf := Lib.hid hf
  clear hnf hf
  go_wp2_with fail
  refine (match_made (P := leftN x y) (R := leftR) (W := W) (ru := ⟨nameN 0, 0⟩) (p := p) (T := T) (lev := lev) u0 HR0.out HO0.out rfl HM.out HNd.out HWu0.out HRt.out (by have := HWl.out; omega) (by decide) rfl HLv.out HP.out (by have := HT.out; have := HWl.out; omega) HPl.out).mono ?_
  rintro e z ⟨⟨tv, he, ht⟩, hb⟩
  have he2 : e = .returned (.tuple #[.agg #[.bool false, .int .i64 0, .int .i64 ((p + nf : Nat) : Int), tv], .int .i64 (aSp T ⟨T - 4, false⟩), .int .i64 0]) := he
  subst he2
  clear he
  obtain ⟨ta, tc, htv⟩ := ht.val'
  have htv2 : tv = .slice ta 0 tc := htv
  subst htv2
  clear htv
  generalize aSp T ⟨T - 4, false⟩ = sp
  have HTr := Lib.hid ht
  have HZ := Lib.hid (BU.out.trans (hb.mono BU.out.size))
  have HWz := Lib.hid (HWu.out.later hb)
  clear ht hb v0 v1 hT1 hT2 h1 h2 h3 h4 h5 h6 h7 h8 h9 HR0 HO0 BU HWu HWu0
  go_upto_region 7 with (fail)
  refine gen_world (S := fun u => Below z.heap.size z u ∧ u.heap[z.heap.size]? = some (.cells #[.bool false, .int .i64 0, .int .i64 ((p + nf : Nat) : Int), .slice ta 0 tc] 35 (0, 0))) (one_new z _) (fun u1 hu => ?_)
  obtain ⟨hb, k1⟩ := hu
  have HTu := Lib.hid (HTr.out.later hb)
  have BZ := Lib.hid (HZ.out.trans (hb.mono HZ.out.size))
  have HWq := Lib.hid (HWz.out.later hb)
  obtain ⟨F, hF⟩ : ∃ F, F = z.heap.size := ⟨_, rfl⟩
  rw [← hF] at k1 ⊢
  have K1 := Lib.hid k1
  clear hb k1 hF HTr HZ HWz
  go_wp2_with fail
  refine (front_any y (.slice wa wl wc) W p u1 HWq.out HP.out HY.out.2 (by have := HWl.out; omega)).mono ?_
  rintro e u2 ⟨rfl, hb⟩
  have HTu2 := Lib.hid (HTu.out.later hb)
  have BU2 := Lib.hid (BZ.out.trans (hb.mono BZ.out.size))
  have HWu2 := Lib.hid (HWq.out.later hb)
  have K2 := Lib.hid ((hb.block _ (lt_of_block K1.out)).trans K1.out)
  clear hb HTu BZ HWq K1
  rw [← HNf.out]
  have hlt : (nf : Int) < y.size := by have := HHf.out; omega
  have hs : IntKind.i64.wrap ((p : Int) + (nf : Int)) = ((p + nf : Nat) : Int) := by rw [IntWalk.i64_in _ (by have := HHf.out; have := HY.out; omega)]; omega
  obtain ⟨x0, x1, x2, x3⟩ := four_box K2.out
  go_wp2
  go_ret
  exact ⟨rfl, BU2.out⟩
set_option maxRecDepth 100000 in
set_option maxHeartbeats 8000000 in
theorem left_walk_zero (x y : ByteArray) (wv : Value) (W : List UInt8) (p : Nat) (lev : Int) (w : World) (hw : BytesAt w wv W) (hx : 1 ≤ x.size ∧ x.size ≤ 64) (hy : 1 ≤ y.size ∧ y.size ≤ 64) (hW : W.length ≤ 200) (hp : p ≤ W.length) (hl : 0 ≤ lev ∧ lev ≤ 99) (hf : frontL y.data.toList (W.drop p) = y.size) (hl0 : lev = 0) :
    Calls Try.prog 3 #[.string x, .string y, wv, .int .i64 p, .int .i64 lev] w fun e w' => e = .returned (.bool true) ∧ Below w.heap.size w w' := by
  have HNd := Lib.hid (leftN_nd x y hx.2 hy.2)
  have HRt := Lib.hid (leftR_right x y hx hy)
  obtain ⟨wa, wc, hwv⟩ := hw.val
  subst hwv
  have HW := Lib.hid hw
  have HX := Lib.hid hx
  have HY := Lib.hid hy
  have HWl := Lib.hid hW
  have HP := Lib.hid hp
  have HL := Lib.hid hl
  obtain ⟨wl, hwl⟩ : ∃ wl, wl = W.length := ⟨_, rfl⟩
  have HWn := Lib.hid hwl
  rw [← hwl] at hp hW HW ⊢
  have h1 : ¬ (x.size : Int) < 1 := by omega
  have h2 : ¬ (x.size : Int) > 64 := by omega
  have h3 : ¬ (y.size : Int) < 1 := by omega
  have h4 : ¬ (y.size : Int) > 64 := by omega
  have h5 : ¬ (wl : Int) > 200 := by omega
  have h6 : ¬ lev < 0 := by omega
  have h7 : ¬ lev > 99 := by omega
  have h8 : ¬ (p : Int) < 0 := by omega
  have h9 : ¬ (p : Int) > (wl : Int) := by omega
  clear hw hx hy hwl
  go_enter Try.func3, Try.ntmps3
  go_wp2_with fail
  refine (awake_any w).mono ?_
  rintro e u ⟨rfl, hb⟩
  have B0 := Lib.hid hb
  have HW0 := Lib.hid (HW.out.later hb)
  clear hb HW
  go_wp2_with fail
  refine (call_made 0 0 u).mono ?_
  rintro e w1 ⟨v65, N65, rfl, hm, hO, hB⟩
  have M65_1 := Lib.hid (show NsM w1 v65 [callN 0 0] from NsM.of (w' := w) hm hO)
  have B1 := Lib.hid (B0.out.trans (hB.mono B0.out.size))
  have HW1 := Lib.hid (HW0.out.later hB)
  clear hm hO hB B0 HW0 
  obtain ⟨a65, n65, c65, rfl⟩ := M65_1.out.val
  go_wp2_with fail
  refine (word_made x w1).mono ?_
  rintro e w2 ⟨v67, N67, rfl, hm, hO, hB⟩
  have M67_2 := Lib.hid (show NsM w2 v67 [wordN x] from NsM.of (w' := w) hm hO)
  have M65_2 := Lib.hid (M65_1.out.later hB)
  have B2 := Lib.hid (B1.out.trans (hB.mono B1.out.size))
  have HW2 := Lib.hid (HW1.out.later hB)
  clear hm hO hB B1 HW1 M65_1
  obtain ⟨a67, n67, c67, rfl⟩ := M67_2.out.val
  go_wp2_with fail
  refine (chain_m _ _ _ _ w2 M65_2.out M67_2.out (by kernel_rfl) (by kernel_rfl)).mono ?_
  rintro e w3 ⟨v68, N68, rfl, hm, hO, hB⟩
  have M68_3 := Lib.hid (show NsM w3 v68 (ofN 6 [[callN 0 0], [wordN x]]) from NsM.of (w' := w) hm hO)
  have B3 := Lib.hid (B2.out.trans (hB.mono B2.out.size))
  have HW3 := Lib.hid (HW2.out.later hB)
  clear hm hO hB B2 HW2 M65_2 M67_2
  obtain ⟨a68, n68, c68, rfl⟩ := M68_3.out.val
  go_wp2_with fail
  refine (word_made y w3).mono ?_
  rintro e w4 ⟨v70, N70, rfl, hm, hO, hB⟩
  have M70_4 := Lib.hid (show NsM w4 v70 [wordN y] from NsM.of (w' := w) hm hO)
  have M68_4 := Lib.hid (M68_3.out.later hB)
  have B4 := Lib.hid (B3.out.trans (hB.mono B3.out.size))
  have HW4 := Lib.hid (HW3.out.later hB)
  clear hm hO hB B3 HW3 M68_3
  obtain ⟨a70, n70, c70, rfl⟩ := M70_4.out.val
  go_wp2_with fail
  refine (first_m _ _ _ _ w4 M68_4.out M70_4.out (by kernel_rfl) (by kernel_rfl)).mono ?_
  rintro e w5 ⟨v71, N71, rfl, hm, hO, hB⟩
  have M71_5 := Lib.hid (show NsM w5 v71 (ofN 7 [(ofN 6 [[callN 0 0], [wordN x]]), [wordN y]]) from NsM.of (w' := w) hm hO)
  have B5 := Lib.hid (B4.out.trans (hB.mono B4.out.size))
  have HW5 := Lib.hid (HW4.out.later hB)
  clear hm hO hB B4 HW4 M68_4 M70_4
  obtain ⟨a71, n71, c71, rfl⟩ := M71_5.out.val
  have HN := Lib.hid (one_new w5 (.cells #[.slice a71 n71 c71] 25 (0, 0)))
  go_wp2_with fail
  refine (gram_m w5.heap.size [.slice a71 n71 c71] (leftLs x y) _ HN.out.2 ⟨M71_5.out.later HN.out.1, (by kernel_rfl), trivial⟩ (by simp)).mono ?_
  rintro e w6 ⟨rv, nv, N, rfl, hm, hR, hO, hB⟩
  replace hB := HN.out.1.trans (hB.mono HN.out.1.size)
  have HM := Lib.hid hm
  have HR := Lib.hid hR
  have HO := Lib.hid hO
  have B6 := Lib.hid (B5.out.trans (hB.mono B5.out.size))
  have HW6 := Lib.hid (HW5.out.later hB)
  clear hm hR hO hB B5 HW5 M71_5
  obtain ⟨ra, rc, hrv⟩ := own_val HR.out
  have hrv2 : rv = .slice ra 1 rc := hrv
  subst hrv2
  clear hrv
  obtain ⟨na, nc, hnv⟩ := own_val HO.out.row
  subst hnv
  obtain ⟨nl, hnl⟩ : ∃ nl, nl = N.length := ⟨_, rfl⟩
  rw [← hnl] at HO ⊢
  clear hnl
  go_upto_region 6 with (fail)
  refine gen_world (S := fun u => Below w6.heap.size w6 u ∧ u.heap[w6.heap.size]? = some (.cells #[.slice ra 1 rc, .slice na nl nc] 27 (0, 0))) (one_new w6 _) (fun u0 hu => ?_)
  obtain ⟨hb, k1⟩ := hu
  have HR0 := Lib.hid (Keeps.row (Keeps.ofNew hb (fun _ => False)) HR.out (fun _ _ => id))
  have HO0 := Lib.hid (HO.out.later hb)
  have BU := Lib.hid (B6.out.trans (hb.mono B6.out.size))
  have HWu := Lib.hid (HW6.out.later hb)
  obtain ⟨G, hG⟩ : ∃ G, G = w6.heap.size := ⟨_, rfl⟩
  rw [← hG] at k1 ⊢
  obtain ⟨v0, v1, -, -⟩ := box_cells k1
  obtain ⟨T, hT⟩ : ∃ T, T = 6 * (W.length + 3) := ⟨_, rfl⟩
  have HT := Lib.hid hT
  rw [← HWn.out] at hT
  have hT1 : IntKind.i64.wrap ((wl : Int) + 3) = (wl : Int) + 3 := IntWalk.i64_in _ (by omega)
  have hT2 : IntKind.i64.wrap (6 * ((wl : Int) + 3)) = (T : Int) := by rw [IntWalk.i64_in _ (by omega)]; omega
  clear hb k1 hG HR HO B6 HW6 hT
  subst hl0
  obtain ⟨m, fr, l, g1, g2, g3, g4, g5⟩ := plain_zero (x := x) (y := y) (W := W) (p := p) (T := T) HX.out.1 HT.out HWl.out HP.out hf
  obtain ⟨nf, hnf⟩ : ∃ nf, nf = frontL y.data.toList (W.drop p) := ⟨_, rfl⟩
  rw [← hnf] at hf
  have HNf := Lib.hid hnf
  have HWu0 := HWu
  obtain ⟨e0, he0⟩ : ∃ e0, e0 = p + y.size := ⟨_, rfl⟩
  have HE0 := Lib.hid he0
  obtain ⟨en, hen⟩ : ∃ en, en = e0 + m * x.size := ⟨_, rfl⟩
  have HEn := Lib.hid hen
  obtain ⟨L, hL⟩ : ∃ L, L = m + 1 := ⟨_, rfl⟩
  have HLm := Lib.hid hL
  have HLv := Lib.hid HL.out
  rw [← he0] at g1 g2 g4 g5
  rw [← hen] at g2 g4 g5
  have hlt0 := chain_leftT p e0 x.size m
  obtain ⟨Tr, hTr⟩ : ∃ Tr, Tr = chain p e0 x.size (m + 1) := ⟨_, rfl⟩
  rw [← hTr] at g5 hlt0
  have HTl := Lib.hid hlt0
  have HPl := Lib.hid g5
  have G1 := Lib.hid g1
  have G2 := Lib.hid g2
  have G3 := Lib.hid g3
  have G4 := Lib.hid g4
  have HMs := Lib.hid (show m ≤ 200 by
    have h1 : m * 1 ≤ m * x.size := Nat.mul_le_mul_left _ HX.out.1
    have := HWl.out
    omega)
  have HHf := Lib.hid hf
  clear hnf hf g1 g2 g3 g4 g5 hlt0 hTr hL hen he0
  go_wp2_with fail
  refine (match_made (P := leftN x y) (R := leftR) (W := W) (ru := ⟨nameN 0, 0⟩) (p := p) (T := T) (lev := 0) u0 HR0.out HO0.out rfl HM.out HNd.out HWu0.out HRt.out (by have := HWl.out; omega) (by decide) rfl HLv.out HP.out (by have := HT.out; have := HWl.out; omega) HPl.out).mono ?_
  rintro e z ⟨⟨tv, he, ht⟩, hb⟩
  have he2 : e = .returned (.tuple #[.agg #[.bool true, .int .i64 (en : Int), .int .i64 ((en + fr : Nat) : Int), tv], .int .i64 (aSp T ⟨l, false⟩), .int .i64 0]) := he
  subst he2
  clear he
  have ht2 : TwIn z tv Tr := ht
  clear ht
  have ht := ht2
  clear ht2
  obtain ⟨ta, tc, htv⟩ := ht.val'
  rw [HTl.out.1, ← HLm.out] at htv
  subst htv
  generalize aSp T ⟨l, false⟩ = sp
  have HTr := Lib.hid ht
  have HZ := Lib.hid (BU.out.trans (hb.mono BU.out.size))
  have HWz := Lib.hid (HWu.out.later hb)
  clear ht hb v0 v1 hT1 hT2 h1 h2 h3 h4 h5 h6 h7 h8 h9 HR0 HO0 BU HWu HWu0
  go_upto_region 7 with (fail)
  refine gen_world (S := fun u => Below z.heap.size z u ∧ u.heap[z.heap.size]? = some (.cells #[.bool true, .int .i64 (en : Int), .int .i64 ((en + fr : Nat) : Int), .slice ta L tc] 35 (0, 0))) (one_new z _) (fun u1 hu => ?_)
  obtain ⟨hb, k1⟩ := hu
  have HTu := Lib.hid (HTr.out.later hb)
  have BZ := Lib.hid (HZ.out.trans (hb.mono HZ.out.size))
  have HWq := Lib.hid (HWz.out.later hb)
  obtain ⟨F, hF⟩ : ∃ F, F = z.heap.size := ⟨_, rfl⟩
  rw [← hF] at k1 ⊢
  have K1 := Lib.hid k1
  clear hb k1 hF HTr HZ HWz
  go_wp2_with fail
  refine (front_any y (.slice wa wl wc) W p u1 HWq.out HP.out HY.out.2 (by have := HWl.out; omega)).mono ?_
  rintro e u2 ⟨rfl, hb⟩
  have HTu2 := Lib.hid (HTu.out.later hb)
  have BU2 := Lib.hid (BZ.out.trans (hb.mono BZ.out.size))
  have HWu2 := Lib.hid (HWq.out.later hb)
  have K2 := Lib.hid ((hb.block _ (lt_of_block K1.out)).trans K1.out)
  clear hb HTu BZ HWq K1
  rw [← HNf.out, HHf.out]
  have hlt : ¬ (y.size : Int) < y.size := by omega
  have hs : IntKind.i64.wrap ((p : Int) + (y.size : Int)) = (e0 : Int) := by rw [IntWalk.i64_in _ (by have := HY.out; omega)]; have := HE0.out; omega
  go_upto_region 13 with (fail)
  refine gen_world (S := fun u => Below u2.heap.size u2 u ∧ u.heap[u2.heap.size]? = some (.cells #[.int .i64 (e0 : Int)] 3 (0, 0))) (one_new u2 _) (fun u3 hu => ?_)
  obtain ⟨hb, k1⟩ := hu
  have HB3 := Lib.hid hb
  have HOn := Lib.hid (show u3.ownsRow u2.heap.size 3 1 (.slice (some ⟨u2.heap.size, 0, none⟩) 1 1) 1 (iv (endsL e0 x.size 0)) from own_shut (cur := #[.int .i64 (e0 : Int)]) rfl (Nat.le_refl _) k1 (by omega) (by unfold maxLen; omega) rfl (by simp [endsL]))
  clear hb k1 hs hlt
  have hO1 := (own_get HOn.out (endsL_get (e0 := e0) (X := x.size) (Nat.le_refl 0))).1
  rw [Nat.zero_mul, Nat.add_zero] at hO1
  have HF0 := Lib.hid (fun k (hk : k ≤ m) (ww : World) (hb : Below u2.heap.size u2 ww) => front_any x (.slice wa wl wc) W (e0 + k * x.size) ww (HWu2.out.later hb) (by have h1 : k * x.size ≤ m * x.size := Nat.mul_le_mul_right _ hk; have := HEn.out; have := G4.out; omega) HX.out.2 (by have := HWl.out; omega))
  have hF0 := HF0.out 0 (Nat.zero_le _) u3 HB3.out
  rw [Nat.zero_mul, Nat.add_zero] at hF0
  have HFF := Lib.hid hF0
  clear hF0
  go_wp2_with fail
  refine HFF.out.mono ?_
  rintro e u4 ⟨rfl, hb⟩
  have HB4 := Lib.hid (HB3.out.trans (hb.mono HB3.out.size))
  have HO4 := Lib.hid (Keeps.row (Keeps.ofNew hb (fun _ => False)) HOn.out (fun _ _ => id))
  obtain ⟨q0, hq0⟩ : ∃ q0, q0 = frontL x.data.toList (W.drop (e0 + 0 * x.size)) := ⟨_, rfl⟩
  have HQ0 := Lib.hid hq0
  rw [Nat.zero_mul, Nat.add_zero] at hq0
  rw [← hq0]
  clear hb hq0 hO1 HOn HB3 HFF
  obtain ⟨i0, hi0, hz0, hz1, hz2⟩ := info_parts Try.infoInt
  have HXl := Lib.hid (show x.data.toList.length = x.size from toList_size x)
  go_wp2
  go_loopw [15, 16] (fun a b wr => ∃ k q : Nat, a = .int .i64 q ∧ k ≤ m ∧ Hid (q = frontL x.data.toList (W.drop (e0 + k * x.size))) ∧ Hid (wr.ownsRow u2.heap.size 3 1 b (k + 1) (iv (endsL e0 x.size k))) ∧ Hid (Below u2.heap.size u2 wr)) (fun _ b _ => m + 2 - lenV b)
  case atStart => exact ⟨0, q0, rfl, Nat.zero_le _, HQ0, HO4, HB4⟩
  case round =>
    clear HQ0 HO4 HB4
    obtain ⟨k, q, rfl, hk, HQ, HO, HB⟩ := hrel
    obtain ⟨ea, ec, hev⟩ := own_val HO.out
    subst hev
    by_cases hkm : k < m
    · obtain ⟨ga, hga⟩ : ∃ ga : Nat, ea = some ⟨ga, 0, none⟩ := by
        rcases HO.out.2 with ⟨e, h0⟩ | ⟨g, cap, cur, e, -⟩
        · simp at e
        · simp only [Value.slice.injEq] at e
          exact ⟨g, e.1⟩
      subst hga
      have hq := HQ.out.trans (G1.out k hkm)
      subst hq
      have hE1 := (own_get HO.out (endsL_get (Nat.le_refl k))).1
      obtain ⟨kk, hkk⟩ : ∃ kk, kk = k + 1 := ⟨_, rfl⟩
      have HKk := Lib.hid hkk
      obtain ⟨ek, hek⟩ : ∃ ek, ek = e0 + k * x.size := ⟨_, rfl⟩
      obtain ⟨en1, hen1⟩ : ∃ en1, en1 = e0 + kk * x.size := ⟨_, rfl⟩
      have HEn1 := Lib.hid hen1
      have hle : kk * x.size ≤ m * x.size := Nat.mul_le_mul_right _ (by omega)
      have hmul : kk * x.size = k * x.size + x.size := by rw [hkk, Nat.add_mul]; omega
      have hs1 : IntKind.i64.wrap ((ek : Int) + (x.size : Int)) = (en1 : Int) := by rw [IntWalk.i64_in _ (by have := HEn.out; have := G4.out; have := HWl.out; omega)]; omega
      have hi1 : IntKind.i64.wrap ((kk : Int) - 1) = (k : Int) := by rw [IntWalk.i64_in _ (by have := HMs.out; omega)]; omega
      have hi2 : (k : Int) < kk := by omega
      have hi3 : k < kk := by omega
      have hrow := HO.out
      rw [← hkk] at hrow HO ⊢
      rw [← hek] at hE1
      have hsz := HB.out.size
      have hkb : kk ≤ 201 := by have := HMs.out; omega
      clear hle hmul hen1 hek hkk HQ
      go_upto_region 18 with (at_builtin; refine wpList_append_mine _ rfl (.tmp 130) (.tmp 139) 40 rfl u2.heap.size 3 i0 _ 1 8 Try.underlying40 hi0 hz0 hz1 hz2 rfl (by decide) _ kk (iv (endsL e0 x.size k)) rfl (hrow.alloc _) (some ⟨wr.heap.size, 0, none⟩) 1 1 [.int .i64 (en1 : Int)] rfl rfl (fun h => by cases h) (by intro ad had; simp only [Option.some.injEq] at had; subst had; exact World.news_of_block (t := 3) (fr := (0, 0)) (heap_alloc_new wr _)) (by simp [Value.oneCell']) (by unfold maxLen; omega) (by omega) (by simp; omega) ?_; intro v1 w1 hown1 hgrow1 hblk1; obtain ⟨av, cv, rfl⟩ := own_val hown1)
      have HB1 := Lib.hid (HB.out.trans (((Below.refl u2.heap.size wr).alloc hsz _).grown hgrow1 (by simp; omega) (fun r hr => (hrow.lt r hr).1)))
      have hown2 : w1.ownsRow u2.heap.size 3 1 (.slice av (kk + 1) cv) (kk + 1) (iv (endsL e0 x.size kk)) := by
        have h1 := HKk.out
        have h2 := HEn1.out
        have h3 : iv (endsL e0 x.size kk) = iv (endsL e0 x.size k) ++ [.int .i64 (en1 : Int)] := by
          rw [h1, endsL_succ, ← h1, ← h2]
          simp
        rw [h3]
        exact hown1
      have HO1 := Lib.hid hown2
      clear hown1 hgrow1 hblk1 hown2 hrow hE1 hi1 hi2 hi3 hs1 hsz
      obtain ⟨gv, hgv⟩ : ∃ gv : Nat, av = some ⟨gv, 0, none⟩ := by
        rcases HO1.out.2 with ⟨e, h0⟩ | ⟨g, cap, cur, e, -⟩
        · simp at e
        · simp only [Value.slice.injEq] at e
          exact ⟨g, e.1⟩
      subst hgv
      have hE1 := (own_get HO1.out (endsL_get (Nat.le_refl kk))).1
      rw [← HEn1.out] at hE1
      obtain ⟨k2, hk2⟩ : ∃ k2, k2 = kk + 1 := ⟨_, rfl⟩
      have HK2 := Lib.hid hk2
      rw [← hk2] at HO1 ⊢
      have hi1 : IntKind.i64.wrap ((k2 : Int) - 1) = (kk : Int) := by rw [IntWalk.i64_in _ (by omega)]; omega
      have hi2 : (kk : Int) < k2 := by omega
      have hi3 : kk < k2 := by omega
      have hF0 := HF0.out kk (by have := HKk.out; omega) w1 HB1.out
      rw [← HEn1.out] at hF0
      have HFF := Lib.hid hF0
      clear hF0 hk2
      go_wp2_with fail
      refine HFF.out.mono ?_
      rintro e w2 ⟨rfl, hb⟩
      have HB2 := Lib.hid (HB1.out.trans (hb.mono HB1.out.size))
      have HO2 := Lib.hid (Keeps.row (Keeps.ofNew hb (fun _ => False)) HO1.out (fun _ _ => id))
      obtain ⟨q2, hq2⟩ : ∃ q2, q2 = frontL x.data.toList (W.drop en1) := ⟨_, rfl⟩
      have HQ2 := Lib.hid hq2
      rw [← hq2]
      clear hb hq2 hE1
      go_wp2
      refine ⟨⟨kk, q2, rfl, by have := HKk.out; omega, Lib.hid (by rw [← HEn1.out]; exact HQ2.out), Lib.hid (by rw [← HK2.out]; exact HO2.out), HB2⟩, ?_⟩
      have h1 := HKk.out
      have h2 := HK2.out
      simp only [lenV]
      omega
    · obtain rfl : k = m := by omega
      have hq : fr = q := by rw [HQ.out, ← HEn.out]; exact G2.out.symm
      subst hq
      have hlt3 : ¬ ((fr : Int) = x.size) := by have := G3.out; omega
      have HE := Lib.hid (show wr.ownsRow u2.heap.size 3 1 (.slice ea L ec) L (iv (endsL e0 x.size k)) by rw [HLm.out]; exact HO.out)
      rw [← HLm.out]
      obtain ⟨wq, hwq⟩ : ∃ wq, wq = wr := ⟨_, rfl⟩
      subst hwq
      have HKw := Lib.hid ((HB.out.block _ (lt_of_block K2.out)).trans K2.out)
      have HTw := Lib.hid (HTu2.out.later HB.out)
      have BW := Lib.hid (BU2.out.trans (HB.out.mono BU2.out.size))
      have hs2 : IntKind.i64.wrap ((en : Int) + (fr : Int)) = ((en + fr : Nat) : Int) := by rw [IntWalk.i64_in _ (by have := G3.out; have := G4.out; have := HWl.out; have := HX.out; omega)]; omega
      clear HO HQ HF0 HB
      obtain ⟨x0, x1, x2, x3⟩ := four_box HKw.out
      obtain ⟨ga, hga⟩ : ∃ ga : Nat, ea = some ⟨ga, 0, none⟩ := by
        rcases HE.out.2 with ⟨e, h0⟩ | ⟨g, cap, cur, e, -⟩
        · simp only [Value.slice.injEq] at e
          have := HLm.out
          omega
        · simp only [Value.slice.injEq] at e
          exact ⟨g, e.1⟩
      subst hga
      have hE1 := (own_get HE.out (endsL_get (Nat.le_refl k))).1
      rw [← HEn.out] at hE1
      have hi1 : IntKind.i64.wrap ((L : Int) - 1) = ((k : Nat) : Int) := by rw [IntWalk.i64_in _ (by have := HLm.out; have := HMs.out; omega)]; have := HLm.out; omega
      have hi2 : (0 : Int) < L := by have := HLm.out; omega
      have hi3 : k < L := by have := HLm.out; omega
      have hi4 : ((k : Nat) : Int) < L := by omega
      go_upto_region 20 with (fail)
      go_big_quiet (fail)
      go_wp2
      clear hE1 x0 x1 x2 x3
      go_loopw [18, 19, 20, 21] (fun a b c d vq => ∃ i : Nat, a = .int .i64 i ∧ i ≤ L ∧ Hid (Below wq.heap.size wq vq)) (fun a _ _ _ _ => L - (intOf a).toNat)
      case atStart => exact ⟨0, rfl, Nat.zero_le _, Lib.hid (below_draws (Below.refl _ _) _)⟩
      case round =>
        obtain ⟨i, rfl, hi, HBr⟩ := hrel
        by_cases hil : i < L
        · have hil2 : (i : Int) < L := by omega
          have K4 := Lib.hid ((HBr.out.block _ (lt_of_block HKw.out)).trans HKw.out)
          obtain ⟨x0, x1, x2, x3⟩ := four_box K4.out
          obtain ⟨-, -, -, -, hc⟩ := TwAt.cells (HTw.out.later HBr.out).1
          obtain ⟨tb, tf, ha, -, c0, c1, c2, c3, c4⟩ := hc i (by rw [HTl.out.1, ← HLm.out]; exact hil)
          obtain ⟨r0, r1, r2, r3, r4⟩ := HTl.out.2 i (by rw [HTl.out.1, ← HLm.out]; exact hil)
          have hik : i ≤ k := by have := HLm.out; omega
          obtain ⟨d, hd⟩ : ∃ d, d = k - i := ⟨_, rfl⟩
          obtain ⟨td, htd⟩ : ∃ td, td = e0 + d * x.size := ⟨_, rfl⟩
          have hEd := (own_get (Keeps.row (Keeps.ofNew HBr.out (fun _ => False)) HE.out (fun _ _ => id)) (endsL_get (j := d) (by omega))).1
          have hi5 : IntKind.i64.wrap (((k : Nat) : Int) - (i : Int)) = (d : Int) := by rw [IntWalk.i64_in _ (by have := HMs.out; omega)]; have := HLm.out; omega
          have hi6 : (d : Int) < L := by omega
          have hi7 : d < L := by omega
          rw [← htd] at hEd
          rw [← hd, ← htd] at r3
          rw [r0] at c0
          rw [r2] at c2
          rw [r3] at c3
          subst ha
          have HEd := Lib.hid hEd
          have HHd := Lib.hid hd
          clear hc r0 r2 r3 htd hd hEd
          by_cases hz : i = 0
          · rw [if_pos hz] at r1
            rw [r1] at c1
            have hz2 : decide ((i : Int) = 0) = true := decide_eq_true (by omega)
            have hz3 : decide (i = 0) = true := decide_eq_true hz
            have hz4 : ((i : Int) == 0) = true := by simp; omega
            have HZi := Lib.hid hz
            by_cases hm : i = k
            · have hm2 : decide ((i : Int) = ((k : Nat) : Int)) = true := decide_eq_true (by omega)
              have hm3 : decide (i = k) = true := decide_eq_true hm
              have hm4 : ((i : Int) == ((k : Nat) : Int)) = true := by simp; omega
              have HMi := Lib.hid hm
              have HHi := Lib.hid hi
              rw [if_pos hm] at r4
              rw [r4] at c4
              clear r1 r4 hm hz hi
              go_upto_region 26 with (fail)
              refine gen_world (S := fun u => Below wr.heap.size wr u ∧ u.heap[wr.heap.size]? = some (.cells #[.int .i64 0, .int .i64 0, .int .i64 p, .int .i64 td, .int .i64 0] 44 (0, 0))) (one_new wr _) (fun q hq => ?_)
              obtain ⟨hbq, hkq⟩ := hq
              obtain ⟨y0, y1, y2, y3, y4⟩ := five_box hkq
              have hEq := cell_later hbq HEd.out
              have HBq := Lib.hid (HBr.out.trans (hbq.mono HBr.out.size))
              obtain ⟨Y, hY⟩ : ∃ Y, Y = wr.heap.size := ⟨_, rfl⟩
              rw [← hY] at y0 y1 y2 y3 y4 ⊢
              clear hbq hkq hY c0 c1 c2 c3 c4 x0 x1 x2 x3
              have hlb : L ≤ 201 := by have := HLm.out; have := HMs.out; omega
              go_upto_region 32 with (fail)
              go_big_quiet (fail)
              go_wp2
              exact ⟨⟨i + 1, by go_num, by omega, Lib.hid (below_draws HBq.out _)⟩, by simp [intOf]; omega⟩
            · have hm2 : ¬ (i : Int) = ((k : Nat) : Int) := by omega


              have HMi := Lib.hid hm
              have HHi := Lib.hid hi
              rw [if_neg hm] at r4
              rw [r4] at c4
              clear r1 r4 hm hz hi
              go_upto_region 26 with (fail)
              refine gen_world (S := fun u => Below wr.heap.size wr u ∧ u.heap[wr.heap.size]? = some (.cells #[.int .i64 0, .int .i64 0, .int .i64 p, .int .i64 td, .int .i64 1] 44 (0, 0))) (one_new wr _) (fun q hq => ?_)
              obtain ⟨hbq, hkq⟩ := hq
              obtain ⟨y0, y1, y2, y3, y4⟩ := five_box hkq
              have hEq := cell_later hbq HEd.out
              have HBq := Lib.hid (HBr.out.trans (hbq.mono HBr.out.size))
              obtain ⟨Y, hY⟩ : ∃ Y, Y = wr.heap.size := ⟨_, rfl⟩
              rw [← hY] at y0 y1 y2 y3 y4 ⊢
              clear hbq hkq hY c0 c1 c2 c3 c4 x0 x1 x2 x3
              have hlb : L ≤ 201 := by have := HLm.out; have := HMs.out; omega
              go_upto_region 32 with (fail)
              go_big_quiet (fail)
              go_wp2
              exact ⟨⟨i + 1, by go_num, by omega, Lib.hid (below_draws HBq.out _)⟩, by simp [intOf]; omega⟩
          · rw [if_neg hz] at r1
            rw [r1] at c1
            have hz2 : ¬ (i : Int) = 0 := by omega
            have HZi := Lib.hid hz
            by_cases hm : i = k
            · have hm2 : decide ((i : Int) = ((k : Nat) : Int)) = true := decide_eq_true (by omega)
              have hm3 : decide (i = k) = true := decide_eq_true hm
              have hm4 : ((i : Int) == ((k : Nat) : Int)) = true := by simp; omega
              have HMi := Lib.hid hm
              have HHi := Lib.hid hi
              rw [if_pos hm] at r4
              rw [r4] at c4
              clear r1 r4 hm hz hi
              go_upto_region 26 with (fail)
              refine gen_world (S := fun u => Below wr.heap.size wr u ∧ u.heap[wr.heap.size]? = some (.cells #[.int .i64 0, .int .i64 0, .int .i64 p, .int .i64 td, .int .i64 0] 44 (0, 0))) (one_new wr _) (fun q hq => ?_)
              obtain ⟨hbq, hkq⟩ := hq
              obtain ⟨y0, y1, y2, y3, y4⟩ := five_box hkq
              have hEq := cell_later hbq HEd.out
              have HBq := Lib.hid (HBr.out.trans (hbq.mono HBr.out.size))
              obtain ⟨Y, hY⟩ : ∃ Y, Y = wr.heap.size := ⟨_, rfl⟩
              rw [← hY] at y0 y1 y2 y3 y4 ⊢
              clear hbq hkq hY c0 c1 c2 c3 c4 x0 x1 x2 x3
              have hlb : L ≤ 201 := by have := HLm.out; have := HMs.out; omega
              go_upto_region 32 with (fail)
              go_big_quiet (fail)
              go_wp2
              exact ⟨⟨i + 1, by go_num, by omega, Lib.hid (below_draws HBq.out _)⟩, by simp [intOf]; omega⟩
            · have hm2 : ¬ (i : Int) = ((k : Nat) : Int) := by omega


              have HMi := Lib.hid hm
              have HHi := Lib.hid hi
              rw [if_neg hm] at r4
              rw [r4] at c4
              clear r1 r4 hm hz hi
              go_upto_region 26 with (fail)
              refine gen_world (S := fun u => Below wr.heap.size wr u ∧ u.heap[wr.heap.size]? = some (.cells #[.int .i64 0, .int .i64 0, .int .i64 p, .int .i64 td, .int .i64 1] 44 (0, 0))) (one_new wr _) (fun q hq => ?_)
              obtain ⟨hbq, hkq⟩ := hq
              obtain ⟨y0, y1, y2, y3, y4⟩ := five_box hkq
              have hEq := cell_later hbq HEd.out
              have HBq := Lib.hid (HBr.out.trans (hbq.mono HBr.out.size))
              obtain ⟨Y, hY⟩ : ∃ Y, Y = wr.heap.size := ⟨_, rfl⟩
              rw [← hY] at y0 y1 y2 y3 y4 ⊢
              clear hbq hkq hY c0 c1 c2 c3 c4 x0 x1 x2 x3
              have hlb : L ≤ 201 := by have := HLm.out; have := HMs.out; omega
              go_upto_region 32 with (fail)
              go_big_quiet (fail)
              go_wp2
              exact ⟨⟨i + 1, by go_num, by omega, Lib.hid (below_draws HBq.out _)⟩, by simp [intOf]; omega⟩
        · have hil2 : ¬ (i : Int) < L := by omega
          go_wp2
          go_ret
          exact ⟨rfl, BW.out.trans (HBr.out.mono BW.out.size)⟩
set_option maxRecDepth 100000 in
set_option maxHeartbeats 8000000 in
theorem left_walk_high (x y : ByteArray) (wv : Value) (W : List UInt8) (p : Nat) (lev : Int) (w : World) (hw : BytesAt w wv W) (hx : 1 ≤ x.size ∧ x.size ≤ 64) (hy : 1 ≤ y.size ∧ y.size ≤ 64) (hW : W.length ≤ 200) (hp : p ≤ W.length) (hl : 0 ≤ lev ∧ lev ≤ 99) (hf : frontL y.data.toList (W.drop p) = y.size) (hl0 : 0 < lev) :
    Calls Try.prog 3 #[.string x, .string y, wv, .int .i64 p, .int .i64 lev] w fun e w' => e = .returned (.bool true) ∧ Below w.heap.size w w' := by
  have HNd := Lib.hid (leftN_nd x y hx.2 hy.2)
  have HRt := Lib.hid (leftR_right x y hx hy)
  obtain ⟨wa, wc, hwv⟩ := hw.val
  subst hwv
  have HW := Lib.hid hw
  have HX := Lib.hid hx
  have HY := Lib.hid hy
  have HWl := Lib.hid hW
  have HP := Lib.hid hp
  have HL := Lib.hid hl
  obtain ⟨wl, hwl⟩ : ∃ wl, wl = W.length := ⟨_, rfl⟩
  have HWn := Lib.hid hwl
  rw [← hwl] at hp hW HW ⊢
  have h1 : ¬ (x.size : Int) < 1 := by omega
  have h2 : ¬ (x.size : Int) > 64 := by omega
  have h3 : ¬ (y.size : Int) < 1 := by omega
  have h4 : ¬ (y.size : Int) > 64 := by omega
  have h5 : ¬ (wl : Int) > 200 := by omega
  have h6 : ¬ lev < 0 := by omega
  have h7 : ¬ lev > 99 := by omega
  have h8 : ¬ (p : Int) < 0 := by omega
  have h9 : ¬ (p : Int) > (wl : Int) := by omega
  clear hw hx hy hwl
  go_enter Try.func3, Try.ntmps3
  go_wp2_with fail
  refine (awake_any w).mono ?_
  rintro e u ⟨rfl, hb⟩
  have B0 := Lib.hid hb
  have HW0 := Lib.hid (HW.out.later hb)
  clear hb HW
  go_wp2_with fail
  refine (call_made 0 0 u).mono ?_
  rintro e w1 ⟨v65, N65, rfl, hm, hO, hB⟩
  have M65_1 := Lib.hid (show NsM w1 v65 [callN 0 0] from NsM.of (w' := w) hm hO)
  have B1 := Lib.hid (B0.out.trans (hB.mono B0.out.size))
  have HW1 := Lib.hid (HW0.out.later hB)
  clear hm hO hB B0 HW0 
  obtain ⟨a65, n65, c65, rfl⟩ := M65_1.out.val
  go_wp2_with fail
  refine (word_made x w1).mono ?_
  rintro e w2 ⟨v67, N67, rfl, hm, hO, hB⟩
  have M67_2 := Lib.hid (show NsM w2 v67 [wordN x] from NsM.of (w' := w) hm hO)
  have M65_2 := Lib.hid (M65_1.out.later hB)
  have B2 := Lib.hid (B1.out.trans (hB.mono B1.out.size))
  have HW2 := Lib.hid (HW1.out.later hB)
  clear hm hO hB B1 HW1 M65_1
  obtain ⟨a67, n67, c67, rfl⟩ := M67_2.out.val
  go_wp2_with fail
  refine (chain_m _ _ _ _ w2 M65_2.out M67_2.out (by kernel_rfl) (by kernel_rfl)).mono ?_
  rintro e w3 ⟨v68, N68, rfl, hm, hO, hB⟩
  have M68_3 := Lib.hid (show NsM w3 v68 (ofN 6 [[callN 0 0], [wordN x]]) from NsM.of (w' := w) hm hO)
  have B3 := Lib.hid (B2.out.trans (hB.mono B2.out.size))
  have HW3 := Lib.hid (HW2.out.later hB)
  clear hm hO hB B2 HW2 M65_2 M67_2
  obtain ⟨a68, n68, c68, rfl⟩ := M68_3.out.val
  go_wp2_with fail
  refine (word_made y w3).mono ?_
  rintro e w4 ⟨v70, N70, rfl, hm, hO, hB⟩
  have M70_4 := Lib.hid (show NsM w4 v70 [wordN y] from NsM.of (w' := w) hm hO)
  have M68_4 := Lib.hid (M68_3.out.later hB)
  have B4 := Lib.hid (B3.out.trans (hB.mono B3.out.size))
  have HW4 := Lib.hid (HW3.out.later hB)
  clear hm hO hB B3 HW3 M68_3
  obtain ⟨a70, n70, c70, rfl⟩ := M70_4.out.val
  go_wp2_with fail
  refine (first_m _ _ _ _ w4 M68_4.out M70_4.out (by kernel_rfl) (by kernel_rfl)).mono ?_
  rintro e w5 ⟨v71, N71, rfl, hm, hO, hB⟩
  have M71_5 := Lib.hid (show NsM w5 v71 (ofN 7 [(ofN 6 [[callN 0 0], [wordN x]]), [wordN y]]) from NsM.of (w' := w) hm hO)
  have B5 := Lib.hid (B4.out.trans (hB.mono B4.out.size))
  have HW5 := Lib.hid (HW4.out.later hB)
  clear hm hO hB B4 HW4 M68_4 M70_4
  obtain ⟨a71, n71, c71, rfl⟩ := M71_5.out.val
  have HN := Lib.hid (one_new w5 (.cells #[.slice a71 n71 c71] 25 (0, 0)))
  go_wp2_with fail
  refine (gram_m w5.heap.size [.slice a71 n71 c71] (leftLs x y) _ HN.out.2 ⟨M71_5.out.later HN.out.1, (by kernel_rfl), trivial⟩ (by simp)).mono ?_
  rintro e w6 ⟨rv, nv, N, rfl, hm, hR, hO, hB⟩
  replace hB := HN.out.1.trans (hB.mono HN.out.1.size)
  have HM := Lib.hid hm
  have HR := Lib.hid hR
  have HO := Lib.hid hO
  have B6 := Lib.hid (B5.out.trans (hB.mono B5.out.size))
  have HW6 := Lib.hid (HW5.out.later hB)
  clear hm hR hO hB B5 HW5 M71_5
  obtain ⟨ra, rc, hrv⟩ := own_val HR.out
  have hrv2 : rv = .slice ra 1 rc := hrv
  subst hrv2
  clear hrv
  obtain ⟨na, nc, hnv⟩ := own_val HO.out.row
  subst hnv
  obtain ⟨nl, hnl⟩ : ∃ nl, nl = N.length := ⟨_, rfl⟩
  rw [← hnl] at HO ⊢
  clear hnl
  go_upto_region 6 with (fail)
  refine gen_world (S := fun u => Below w6.heap.size w6 u ∧ u.heap[w6.heap.size]? = some (.cells #[.slice ra 1 rc, .slice na nl nc] 27 (0, 0))) (one_new w6 _) (fun u0 hu => ?_)
  obtain ⟨hb, k1⟩ := hu
  have HR0 := Lib.hid (Keeps.row (Keeps.ofNew hb (fun _ => False)) HR.out (fun _ _ => id))
  have HO0 := Lib.hid (HO.out.later hb)
  have BU := Lib.hid (B6.out.trans (hb.mono B6.out.size))
  have HWu := Lib.hid (HW6.out.later hb)
  obtain ⟨G, hG⟩ : ∃ G, G = w6.heap.size := ⟨_, rfl⟩
  rw [← hG] at k1 ⊢
  obtain ⟨v0, v1, -, -⟩ := box_cells k1
  obtain ⟨T, hT⟩ : ∃ T, T = 6 * (W.length + 3) := ⟨_, rfl⟩
  have HT := Lib.hid hT
  rw [← HWn.out] at hT
  have hT1 : IntKind.i64.wrap ((wl : Int) + 3) = (wl : Int) + 3 := IntWalk.i64_in _ (by omega)
  have hT2 : IntKind.i64.wrap (6 * ((wl : Int) + 3)) = (T : Int) := by rw [IntWalk.i64_in _ (by omega)]; omega
  clear hb k1 hG HR HO B6 HW6 hT
  have g5 := plain_high (x := x) (y := y) (W := W) (p := p) (T := T) lev hl0 (by have := HT.out; omega) hf
  have g4 : p + y.size ≤ W.length := by
    have := (frontL_le y.data.toList (W.drop p)).2
    rw [hf, List.length_drop] at this
    have := HP.out
    omega
  obtain ⟨nf, hnf⟩ : ∃ nf, nf = frontL y.data.toList (W.drop p) := ⟨_, rfl⟩
  rw [← hnf] at hf
  have HNf := Lib.hid hnf
  have HWu0 := HWu
  obtain ⟨e0, he0⟩ : ∃ e0, e0 = p + y.size := ⟨_, rfl⟩
  have HE0 := Lib.hid he0
  have HLm := Lib.hid (show (1 : Nat) = 0 + 1 from rfl)
  have HLv := Lib.hid HL.out
  rw [← he0] at g4 g5
  have HEn := Lib.hid (show e0 = e0 + 0 * x.size by omega)
  have hlt0 := one_leftT p e0 x.size lev
  obtain ⟨Tr, hTr⟩ : ∃ Tr : List Tw, Tr = [⟨0, lev, p, (e0 : Int), 0⟩] := ⟨_, rfl⟩
  rw [← hTr] at g5 hlt0
  have HTl := Lib.hid hlt0
  have HPl := Lib.hid g5
  have HMs := Lib.hid (show 0 ≤ 200 by omega)
  have HHf := Lib.hid hf
  have HL0 := Lib.hid hl0
  clear hnf hf g4 g5 hlt0 hTr he0 hl0
  go_wp2_with fail
  refine (match_made (P := leftN x y) (R := leftR) (W := W) (ru := ⟨nameN 0, 0⟩) (p := p) (T := T) (lev := lev) u0 HR0.out HO0.out rfl HM.out HNd.out HWu0.out HRt.out (by have := HWl.out; omega) (by decide) rfl HLv.out HP.out (by have := HT.out; have := HWl.out; omega) HPl.out).mono ?_
  rintro e z ⟨⟨tv, he, ht⟩, hb⟩
  have he2 : e = .returned (.tuple #[.agg #[.bool true, .int .i64 (e0 : Int), .int .i64 (-1), tv], .int .i64 (aSp T ⟨T - 8, false⟩), .int .i64 0]) := he
  subst he2
  clear he
  have ht2 : TwIn z tv Tr := ht
  clear ht
  have ht := ht2
  clear ht2
  obtain ⟨ta, tc, htv⟩ := ht.val'
  rw [HTl.out.1] at htv
  have htv2 : tv = .slice ta 1 tc := htv
  subst htv2
  clear htv
  generalize aSp T ⟨T - 8, false⟩ = sp
  have HTr := Lib.hid ht
  have HZ := Lib.hid (BU.out.trans (hb.mono BU.out.size))
  have HWz := Lib.hid (HWu.out.later hb)
  clear ht hb v0 v1 hT1 hT2 h1 h2 h3 h4 h5 h6 h7 h8 h9 HR0 HO0 BU HWu HWu0
  go_upto_region 7 with (fail)
  refine gen_world (S := fun u => Below z.heap.size z u ∧ u.heap[z.heap.size]? = some (.cells #[.bool true, .int .i64 (e0 : Int), .int .i64 (-1), .slice ta 1 tc] 35 (0, 0))) (one_new z _) (fun u1 hu => ?_)
  obtain ⟨hb, k1⟩ := hu
  have HTu := Lib.hid (HTr.out.later hb)
  have BZ := Lib.hid (HZ.out.trans (hb.mono HZ.out.size))
  have HWq := Lib.hid (HWz.out.later hb)
  obtain ⟨F, hF⟩ : ∃ F, F = z.heap.size := ⟨_, rfl⟩
  rw [← hF] at k1 ⊢
  have K1 := Lib.hid k1
  clear hb k1 hF HTr HZ HWz
  go_wp2_with fail
  refine (front_any y (.slice wa wl wc) W p u1 HWq.out HP.out HY.out.2 (by have := HWl.out; omega)).mono ?_
  rintro e u2 ⟨rfl, hb⟩
  have HTu2 := Lib.hid (HTu.out.later hb)
  have BU2 := Lib.hid (BZ.out.trans (hb.mono BZ.out.size))
  have HWu2 := Lib.hid (HWq.out.later hb)
  have K2 := Lib.hid ((hb.block _ (lt_of_block K1.out)).trans K1.out)
  clear hb HTu BZ HWq K1
  rw [← HNf.out, HHf.out]
  have hlt : ¬ (y.size : Int) < y.size := by omega
  have hs : IntKind.i64.wrap ((p : Int) + (y.size : Int)) = (e0 : Int) := by rw [IntWalk.i64_in _ (by have := HY.out; omega)]; have := HE0.out; omega
  go_upto_region 13 with (fail)
  refine gen_world (S := fun u => Below u2.heap.size u2 u ∧ u.heap[u2.heap.size]? = some (.cells #[.int .i64 (e0 : Int)] 3 (0, 0))) (one_new u2 _) (fun u3 hu => ?_)
  obtain ⟨hb, k1⟩ := hu
  have HB3 := Lib.hid hb
  have HOn := Lib.hid (show u3.ownsRow u2.heap.size 3 1 (.slice (some ⟨u2.heap.size, 0, none⟩) 1 1) 1 (iv (endsL e0 x.size 0)) from own_shut (cur := #[.int .i64 (e0 : Int)]) rfl (Nat.le_refl _) k1 (by omega) (by unfold maxLen; omega) rfl (by simp [endsL]))
  clear hb k1 hs hlt
  have hlv : ¬ lev = 0 := by have := HL0.out; omega
  obtain ⟨ea, hea⟩ : ∃ ea : Option Addr, ea = some ⟨u2.heap.size, 0, none⟩ := ⟨_, rfl⟩
  rw [← hea] at HOn ⊢
  clear hea
  have HE := HOn
  have HKw := Lib.hid ((HB3.out.block _ (lt_of_block K2.out)).trans K2.out)
  have HTw := Lib.hid (HTu2.out.later HB3.out)
  have BW := Lib.hid (BU2.out.trans (HB3.out.mono BU2.out.size))
  obtain ⟨x0, x1, x2, x3⟩ := four_box HKw.out
  obtain ⟨ga, hga⟩ : ∃ ga : Nat, ea = some ⟨ga, 0, none⟩ := by
    rcases HE.out.2 with ⟨e, h0⟩ | ⟨g, cap, cur, e, -⟩
    · simp at e
    · simp only [Value.slice.injEq] at e
      exact ⟨g, e.1⟩
  subst hga
  have hE1 := (own_get HE.out (endsL_get (Nat.le_refl 0))).1
  rw [← HEn.out] at hE1
  have HE1 := Lib.hid hE1
  go_upto_region 20 with (fail)
  go_big_quiet (fail)
  go_wp2
  clear hE1 x0 x1 x2 x3
  go_loopw [18, 19, 20, 21] (fun a b c d vq => ∃ i : Nat, a = .int .i64 i ∧ i ≤ 1 ∧ Hid (Below u3.heap.size u3 vq)) (fun a _ _ _ _ => 1 - (intOf a).toNat)
  case atStart => exact ⟨0, rfl, Nat.zero_le _, Lib.hid (below_draws (Below.refl _ _) _)⟩
  case round =>
    obtain ⟨i, rfl, hi, HBr⟩ := hrel
    by_cases hil : i = 0
    · subst hil
      have K4 := Lib.hid ((HBr.out.block _ (lt_of_block HKw.out)).trans HKw.out)
      obtain ⟨x0, x1, x2, x3⟩ := four_box K4.out
      obtain ⟨-, -, -, -, hc⟩ := TwAt.cells (HTw.out.later HBr.out).1
      obtain ⟨tb, tf, ha, -, c0, c1, c2, c3, c4⟩ := hc 0 (by rw [HTl.out.1]; omega)
      obtain ⟨r0, r1, r2, r3, r4⟩ := HTl.out.2 0 (by rw [HTl.out.1]; omega)
      have hEd := cell_later HBr.out HE1.out
      rw [Nat.sub_zero, ← HEn.out] at r3
      rw [r0] at c0
      rw [r1, if_pos rfl] at c1
      rw [r2] at c2
      rw [r3] at c3
      rw [r4, if_pos rfl] at c4
      rw [Nat.zero_mul, Nat.add_zero] at c0 c1 c2 c3 c4
      subst ha
      have HEd := Lib.hid hEd
      clear hc r0 r1 r2 r3 r4 hEd hi
      go_upto_region 26 with (fail)
      refine gen_world (S := fun u => Below wr.heap.size wr u ∧ u.heap[wr.heap.size]? = some (.cells #[.int .i64 0, .int .i64 lev, .int .i64 p, .int .i64 (e0 : Int), .int .i64 0] 44 (0, 0))) (one_new wr _) (fun q hq => ?_)
      obtain ⟨hbq, hkq⟩ := hq
      obtain ⟨y0, y1, y2, y3, y4⟩ := five_box hkq
      have hEq := cell_later hbq HEd.out
      have HBq := Lib.hid (HBr.out.trans (hbq.mono HBr.out.size))
      obtain ⟨Y, hY⟩ : ∃ Y, Y = wr.heap.size := ⟨_, rfl⟩
      rw [← hY] at y0 y1 y2 y3 y4 ⊢
      clear hbq hkq hY c0 c1 c2 c3 c4 x0 x1 x2 x3
      go_upto_region 32 with (fail)
      go_big_quiet (fail)
      go_wp2
      exact ⟨⟨1, by go_num, by omega, Lib.hid (below_draws HBq.out _)⟩, by simp [intOf]⟩
    · obtain rfl : i = 1 := by omega
      clear hil
      go_wp2
      go_ret
      exact ⟨rfl, BW.out.trans (HBr.out.mono BW.out.size)⟩
end Go.Proofs.Ytkimkghldilliaa
namespace Go.Proofs.Ytkimkghldilliaa
open Go.ChangeShapes Go.WideShapes Go.ChangeAt Go.RowKit Go.ChangeMaps

theorem Try.cellsB : Try.prog.cellsOf 5 = 1 := by kernel_rfl
set_option maxRecDepth 100000 in
set_option maxHeartbeats 2000000 in
theorem left_any (x y : ByteArray) (wv : Value) (W : List UInt8) (place lev : Int) (w : World) (hw : BytesAt w wv W) :
    Calls Try.prog 3 #[.string x, .string y, wv, .int .i64 place, .int .i64 lev] w fun e w' => e = .returned (.bool true) ∧ Below w.heap.size w w' := by
  by_cases hall : (1 ≤ x.size ∧ x.size ≤ 64) ∧ (1 ≤ y.size ∧ y.size ≤ 64) ∧ W.length ≤ 200 ∧ (0 ≤ place ∧ place ≤ W.length) ∧ 0 ≤ lev ∧ lev ≤ 99
  · obtain ⟨hx, hy, hW, hp, hl⟩ := hall
    obtain ⟨p, rfl⟩ : ∃ p : Nat, place = p := ⟨place.toNat, by omega⟩
    have hf := (frontL_le y.data.toList (W.drop p)).1
    rw [toList_size] at hf
    by_cases h1 : frontL y.data.toList (W.drop p) = y.size
    · by_cases h2 : lev = 0
      · exact left_walk_zero x y wv W p lev w hw hx hy hW (by omega) hl h1 h2
      · exact left_walk_high x y wv W p lev w hw hx hy hW (by omega) hl h1 (by omega)
    · exact left_walk_miss x y wv W p lev w hw hx hy hW (by omega) hl (by omega)
  · obtain ⟨wa, wc, hwv⟩ := hw.val
    subst hwv
    have hall2 : (x.size : Int) < 1 ∨ (x.size : Int) > 64 ∨ (y.size : Int) < 1 ∨ (y.size : Int) > 64 ∨ (W.length : Int) > 200 ∨ lev < 0 ∨ lev > 99 ∨ place < 0 ∨ place > (W.length : Int) := by omega
    have HA := Lib.hid hall2
    obtain ⟨wl, hwl⟩ : ∃ wl, wl = W.length := ⟨_, rfl⟩
    rw [← hwl] at HA ⊢
    clear hall hall2 hw hwl
    go_enter Try.func3, Try.ntmps3
    go_wp2_with fail
    refine (awake_any w).mono ?_
    rintro e w1 ⟨rfl, hb1⟩
    have HB1 := Lib.hid hb1
    clear hb1
    by_cases g0 : (x.size : Int) < 1
    · go_wp2
      go_ret
      exact ⟨rfl, HB1.out⟩
    by_cases g1 : (x.size : Int) > 64
    · go_wp2
      go_ret
      exact ⟨rfl, HB1.out⟩
    by_cases g2 : (y.size : Int) < 1
    · go_wp2
      go_ret
      exact ⟨rfl, HB1.out⟩
    by_cases g3 : (y.size : Int) > 64
    · go_wp2
      go_ret
      exact ⟨rfl, HB1.out⟩
    by_cases g4 : (wl : Int) > 200
    · go_wp2
      go_ret
      exact ⟨rfl, HB1.out⟩
    by_cases g5 : lev < 0
    · go_wp2
      go_ret
      exact ⟨rfl, HB1.out⟩
    by_cases g6 : lev > 99
    · go_wp2
      go_ret
      exact ⟨rfl, HB1.out⟩
    by_cases g7 : place < 0
    · go_wp2
      go_ret
      exact ⟨rfl, HB1.out⟩
    by_cases g8 : place > (wl : Int)
    · go_wp2
      go_ret
      exact ⟨rfl, HB1.out⟩
    exact absurd HA.out (by omega)

set_option maxRecDepth 100000 in
theorem meanLeft_lifted (os : Os) (started : os.Started) (H : Type) (enc : TypeId × Value → H) :
    ReturnsInHanded {} Try.checked os 3 .any (Rows.meanLeftSpec.pre6 enc Try.prog Try.f3 Rows.meanLeftRow.domain false) (Rows.meanLeftSpec.post enc Try.prog Try.f3 false true false false) := by
  refine returnsInHanded_of_change (C := Try.checked) Try.own started (by kernel_rfl) Try.func3
    (ChangeSpec.witness6 (enc := enc) (C := Try.checked) false ⟨#[], #[.string ⟨#[]⟩, .string ⟨#[]⟩, .slice none 0 0, .int .i64 0, .int .i64 0], []⟩ 8 (by kernel_rfl) (by kernel_rfl) (by kernel_rfl) (by kernel_rfl)) ?_
  intro W base args ds gs before hval0 hW _ _
  have hval : ∀ (j : Nat) t v, Try.f3.params[j]? = some t → args[j]? = some v → Value.okWide Try.prog W .any base t v := hval0
  have hW' := hW
  obtain ⟨p, q, hA0, hV, rfl, hfz, hnd⟩ := hW
  have hA : DataW.TrodAll enc Try.prog W 0 (fun _ => true) true Try.f3.params.toList args.toList ds p := hA0
  rw [Try.params3] at hA hval
  obtain ⟨v0, vs0, d0, ds0, p0, q0, hargs, rfl, rfl, h0, r0⟩ := trodAll_cons hA
  obtain ⟨v1, vs1, d1, ds1, p1, q1, rfl, rfl, rfl, h1, r1⟩ := trodAll_cons r0
  obtain ⟨v2, vs2, d2, ds2, p2, q2, rfl, rfl, rfl, h2, r2⟩ := trodAll_cons r1
  obtain ⟨v3, vs3, d3, ds3, p3, q3, rfl, rfl, rfl, h3, r3⟩ := trodAll_cons r2
  obtain ⟨v4, vs4, d4, ds4, p4, q4, rfl, rfl, rfl, h4, r4⟩ := trodAll_cons r3
  obtain ⟨rfl, rfl, rfl⟩ := trodAll_nil r4
  obtain rfl : args = #[v0, v1, v2, v3, v4] := by cases args; simp_all
  obtain ⟨rfl, rfl⟩ := trodVars_none hV
  obtain ⟨x, rfl, rfl, rfl, _⟩ := open_string Try.underlying9 (hval 0 9 v0 rfl rfl) h0
  obtain ⟨y, rfl, rfl, rfl, _⟩ := open_string Try.underlying9 (hval 1 9 v1 rfl rfl) h1
  obtain ⟨bs, hbs⟩ := open_bytes Try.underlying22 Try.underlying5 Try.cellsB (hval 2 22 v2 rfl rfl) h2
  obtain ⟨pl, rfl, rfl, rfl, w3⟩ := open_int Try.underlying3 (hval 3 3 v3 rfl rfl) h3
  obtain ⟨lv, rfl, rfl, rfl, w4⟩ := open_int Try.underlying3 (hval 4 3 v4 rfl rfl) h4
  refine (left_any x y v2 bs pl lv W hbs).mono fun e W' ⟨he, hb⟩ => ?_
  subst he
  exact ⟨_, rfl, law_post Try.laidOut (by rw [Try.params3]; decide +kernel) rfl rfl Try.underlying4 hb hW' rfl rfl rfl⟩

theorem meanLeft_holds : Rows.MeanLeftSaid :=
  OpenClaim.holds_of_wide 3 Try.f3 rfl rfl rfl rfl rfl rfl rfl ⟨rfl, rfl, rfl, rfl, rfl⟩ rfl rfl rfl rfl rfl (by kernel_rfl) Try.func3 (by kernel_rfl)
    (of_decide_eq_true (by kernel_rfl)) (by unfold Func.isWrapper; first | (rw [if_pos (by decide +kernel)]; kernel_rfl) | (rw [if_neg (by decide +kernel)]; exact ⟨rfl, rfl⟩))
    (fun os started H enc _ => meanLeft_lifted os started H enc)
end Go.Proofs.Ytkimkghldilliaa
