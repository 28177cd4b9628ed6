import Derived.Test.YtkimkghldilliaaKnPm
import Derived.Test.YtkimkghldilliaaKnom
import Derived.Test.YtkimkghldilliaaAwKm
import Derived.ChangeMaps5
namespace Go.Proofs.Ytkimkghldilliaa
open Go.RowKit Go.Lib

set_option maxRecDepth 100000 in
set_option maxHeartbeats 1000000 in
theorem sameTwigs_any (v v' : Value) (t : List Tw) (w : World) (h : TwAt w v t) (h' : TwAt w v' t) :
    Calls Try.prog 29 #[v, v'] w fun e w' => e = .returned (.bool true) ∧ Below w.heap.size w w' := by
  have H := Lib.hid h
  have H' := Lib.hid h'
  obtain ⟨ao, cap, rfl⟩ := h.val
  obtain ⟨ao', cap', rfl⟩ := h'.val
  have hm := h.cells.2.2.1
  have hlc := h.cells.2.1
  have hlc' := h'.cells.2.1
  clear h h'
  obtain ⟨n, hn⟩ : ∃ n, n = t.length := ⟨_, rfl⟩
  have Hn := Lib.hid hn
  rw [← hn] at hlc hlc' H H' ⊢
  have hn2 : n ≤ 9223372036854775807 := by unfold maxLen at hm; omega
  clear hn hm
  go_enter Try.func29, Try.ntmps29
  go_wp2
  go_loopw [5] (fun i wr => ∃ k : Nat, k ≤ n ∧ i = .int .i64 k ∧ Below w.heap.size w wr) (fun i _ => n - (intOf i).toNat)
  case atStart => exact ⟨0, by omega, rfl, Below.refl _ _⟩
  case round =>
    obtain ⟨k, hk, rfl, hbel⟩ := hrel
    by_cases hlt : k < n
    · have hlt' : (k : Int) < n := by omega
      obtain ⟨b, off, rfl, -, e0, e1, e2, e3, e4⟩ := (H.out.later hbel).cells.2.2.2.2 k (by rw [← Hn.out]; exact hlt)
      obtain ⟨b', off', rfl, -, g0, g1, g2, g3, g4⟩ := (H'.out.later hbel).cells.2.2.2.2 k (by rw [← Hn.out]; exact hlt)
      obtain ⟨x, hx⟩ : ∃ x, x = t[k]'(by rw [← Hn.out]; exact hlt) := ⟨_, rfl⟩
      rw [← hx] at e0 e1 e2 e3 e4 g0 g1 g2 g3 g4
      clear hx
      obtain ⟨x0, x1, x2, x3, x4⟩ := x
      simp only at e0 e1 e2 e3 e4 g0 g1 g2 g3 g4
      go_wp2_with fail
      go_quiet (fail)
      go_wp2
      go_roundw
      case rel => exact ⟨k + 1, by omega, by go_num, below_draws hbel _⟩
      case measure => simp [intOf]; omega
    · have hlt' : ¬ (k : Int) < n := by omega
      go_wp2
      go_ret
      exact ⟨rfl, hbel⟩


set_option maxRecDepth 100000 in
set_option maxHeartbeats 2000000 in
theorem sameFound_any (b : Bool) (en far : Int) (v v' : Value) (t : List Tw) (w : World) (h : TwAt w v t) (h' : TwAt w v' t) :
    Calls Try.prog 15 #[.agg #[.bool b, .int .i64 en, .int .i64 far, v], .agg #[.bool b, .int .i64 en, .int .i64 far, v']] w fun e w' => e = .returned (.bool true) ∧ Below w.heap.size w w' := by
  have H := Lib.hid h
  have H' := Lib.hid h'
  obtain ⟨ao, cap, rfl⟩ := h.val
  obtain ⟨ao', cap', rfl⟩ := h'.val
  clear h h'
  obtain ⟨n, hn⟩ : ∃ n, n = t.length := ⟨_, rfl⟩
  rw [← hn] at H H' ⊢
  clear hn
  go_enter Try.func15, Try.ntmps15
  go_upto_region 1 with (fail)
  refine gen_world (S := fun u => Below w.heap.size w u ∧ u.heap[w.heap.size]? = some (.cells #[.bool b, .int .i64 en, .int .i64 far, .slice ao n cap] 35 (0, 0)) ∧ u.heap[w.heap.size + 1]? = some (.cells #[.bool b, .int .i64 en, .int .i64 far, .slice ao' n cap'] 35 (0, 0))) (two_new w _ _) (fun u hu => ?_)
  obtain ⟨hb, k1, k2⟩ := hu
  obtain ⟨x0, x1, x2, x3⟩ := four_box k1
  obtain ⟨y0, y1, y2, y3⟩ := four_box k2
  have HB := Lib.hid hb
  have HU := Lib.hid (H.out.later hb)
  have HU' := Lib.hid (H'.out.later hb)
  clear hb k1 k2
  go_wp2_with fail
  refine (sameTwigs_any _ _ t u HU.out HU'.out).mono ?_
  rintro e z ⟨rfl, hbz⟩
  have HZ := Lib.hid (HB.out.trans (hbz.mono HB.out.size))
  clear hbz
  go_wp2
  go_ret
  exact ⟨rfl, HZ.out⟩
theorem pick12 (n : Int) : (pickN n 12).toNat < 12 := by
  obtain ⟨h1, h2⟩ := pickN_range n 12 (by omega)
  omega
set_option maxRecDepth 100000 in
set_option maxHeartbeats 8000000 in
theorem steps_any (n : Int) (wv : Value) (W : List UInt8) (rule more : Int) (w : World) (hw : BytesAt w wv W) :
    Calls Try.prog 4 #[.int .i64 n, wv, .int .i64 rule, .int .i64 more] w fun e w' => e = .returned (.bool true) ∧ Below w.heap.size w w' := by
  obtain ⟨wa, wc, hwv⟩ := hw.val
  subst hwv
  have HW := Lib.hid hw
  obtain ⟨wl, hwl⟩ : ∃ wl, wl = W.length := ⟨_, rfl⟩
  have HWl := Lib.hid hwl
  rw [← hwl] at HW ⊢
  clear hw hwl
  obtain ⟨k, hk⟩ : ∃ k, k = (pickN n 12).toNat := ⟨_, rfl⟩
  have HK := Lib.hid (show k < 12 by rw [hk]; exact pick12 n)
  have HKn := Lib.hid hk
  clear hk
  go_enter Try.func4, Try.ntmps4
  go_wp2_with fail
  refine (awake_any w).mono ?_
  rintro e u ⟨rfl, hb⟩
  have B0 := Lib.hid hb
  have HW0 := Lib.hid (HW.out.later hb)
  clear hb HW
  go_wp2_with fail
  refine (known_any n u).mono ?_
  rw [← HKn.out]
  rintro e w1 ⟨rv, nv, N, rfl, hm, hR, hO, hB⟩
  have HM := Lib.hid hm
  have HR := Lib.hid hR
  have HO := Lib.hid hO
  have B1 := Lib.hid (B0.out.trans (hB.mono B0.out.size))
  have HW1 := Lib.hid (HW0.out.later hB)
  clear hm hR hO hB B0 HW0
  obtain ⟨ra, rc, rfl⟩ := own_val HR.out
  obtain ⟨na, nc, hnv⟩ := own_val HO.out.row
  subst hnv
  obtain ⟨nl, hnl⟩ : ∃ nl, nl = N.length := ⟨_, rfl⟩
  rw [← hnl] at HO ⊢
  clear hnl
  obtain ⟨rl, hrl⟩ : ∃ rl, rl = (knL k).length := ⟨_, rfl⟩
  have HRl := Lib.hid (show rl = (knR k).length by rw [hrl]; exact (gramR_len (knL k) 0 0).symm)
  rw [← hrl] at HR ⊢
  clear hrl
  go_upto_region 4 with (fail)
  refine gen_world (S := fun u => Below w1.heap.size w1 u ∧ u.heap[w1.heap.size]? = some (.cells #[.slice ra rl rc, .slice na nl nc] 27 (0, 0))) (one_new w1 _) (fun u0 hu => ?_)
  obtain ⟨hb, k1⟩ := hu
  have HR0 := Lib.hid (Keeps.row (Keeps.ofNew hb (fun _ => False)) HR.out (fun _ _ => id))
  have HO0 := Lib.hid (HO.out.later hb)
  have BU0 := Lib.hid (B1.out.trans (hb.mono B1.out.size))
  have HW2 := Lib.hid (HW1.out.later hb)
  obtain ⟨G, hG⟩ : ∃ G, G = w1.heap.size := ⟨_, rfl⟩
  rw [← hG] at k1 ⊢
  have HG0 := Lib.hid k1
  obtain ⟨v0, v1, -, -⟩ := box_cells k1
  clear hb k1 hG HR HO B1 HW1
  by_cases g1 : (wl : Int) > 12
  · go_wp2
    go_ret
    exact ⟨rfl, BU0.out⟩
  by_cases g2 : rule < 0
  · go_wp2
    go_ret
    exact ⟨rfl, BU0.out⟩
  by_cases g3 : rule ≥ (rl : Int)
  · go_wp2
    go_ret
    exact ⟨rfl, BU0.out⟩
  by_cases g4 : more < 0
  · go_wp2
    go_ret
    exact ⟨rfl, BU0.out⟩
  by_cases g5 : more > 100
  · go_wp2
    go_ret
    exact ⟨rfl, BU0.out⟩
  obtain ⟨mo, rfl⟩ : ∃ mo : Nat, more = mo := ⟨more.toNat, by omega⟩
  have HMo := Lib.hid (show mo ≤ 100 by omega)
  have HRu := Lib.hid (show 0 ≤ rule ∧ rule.toNat < (knR k).length by have := HRl.out; omega)
  have HW12 := Lib.hid (show W.length ≤ 12 by have := HWl.out; omega)
  obtain ⟨ru, hru⟩ : ∃ ru, (knR k)[rule.toNat]? = some ru := ⟨_, List.getElem?_eq_getElem HRu.out.2⟩
  have HRU := Lib.hid hru
  have HS := Lib.hid (fun (T : Nat) => kn_some HK.out (W := W) (by have := HW12.out; omega) false 0 HRu.out.1 (p := 0) (Nat.zero_le _) HRU.out T)
  have HMM := Lib.hid (fun (T : Nat) (r : Fo) (st' : Ss) (hT : T ≤ 1000000) (ww : World) (hr : ww.ownsRow u.heap.size 56 2 (.slice ra rl rc) rl ((knR k).flatMap ruc)) (ho : NsOwn u.heap.size ww (.slice na nl nc) N) (hw : BytesAt ww (.slice wa wl wc) W) he => match_made (P := knN k) (R := knR k) (W := W) (ru := ru) (p := 0) (T := T) (lev := 0) (r := r) (st' := st') ww hr ho HRl.out HM.out (kn_nd HK.out) hw (kn_right HK.out) (by have := HW12.out; omega) HRu.out.1 HRU.out (by decide) (Nat.zero_le _) (by omega) he)
  clear hru
  obtain ⟨o1, s1, e1, -⟩ := HS.out 3000
  have E1 := Lib.hid e1
  go_wp2_with fail
  refine (HMM.out 3000 o1 s1 (by decide) u0 HR0.out HO0.out HW2.out E1.out).mono ?_
  obtain ⟨l1, ov⟩ := s1
  cases ov with
  | true =>
    rintro e z hP
    obtain ⟨⟨tv, rfl, ht⟩, hb⟩ := match_full hP rfl
    have BZ := Lib.hid (BU0.out.trans (hb.mono BU0.out.size))
    obtain ⟨ta, tc, htv⟩ := ht.val'
    subst htv
    clear hP ht hb
    go_wp2
    go_ret
    exact ⟨rfl, (by first | exact BZ.out | exact BZ.out.alloc BZ.out.size _)⟩
  | false =>
    rintro e z ⟨⟨tv, he, ht⟩, hb⟩
    have hpay : l1 < 3000 := top_pays E1.out
    obtain ⟨sp, hsp⟩ : ∃ sp : Nat, sp = 3000 - l1 := ⟨_, rfl⟩
    have HSp := Lib.hid (show sp + l1 = 3000 ∧ 1 ≤ sp by omega)
    have he2 : e = .returned (.tuple #[.agg #[.bool (foIs o1), .int .i64 (foEn o1), .int .i64 (foFar o1), tv], .int .i64 sp, .int .i64 0]) := by
      rw [he]
      simp only [aIs, aEn, aFar, aSp, aErr, Bool.not_false, Bool.true_and, Bool.false_eq_true, if_false]
      have h3 : ((3000 : Nat) : Int) - l1 = sp := by omega
      rw [h3]
    subst he2
    have ht2 : TwIn z tv (foF o1) := ht
    clear he ht hpay hsp
    obtain ⟨ta, tc, htv⟩ := ht2.val'
    subst htv
    have HT1 := Lib.hid ht2
    have hb2 := hb
    clear hb ht2
    obtain ⟨tl, htl⟩ : ∃ tl, tl = (foF o1).length := ⟨_, rfl⟩
    rw [← htl] at HT1 ⊢
    have HTl := Lib.hid htl
    clear htl
    obtain ⟨fi, hfi⟩ : ∃ fi, fi = foIs o1 := ⟨_, rfl⟩
    obtain ⟨fe, hfe⟩ : ∃ fe, fe = foEn o1 := ⟨_, rfl⟩
    obtain ⟨ff, hff⟩ : ∃ ff, ff = foFar o1 := ⟨_, rfl⟩
    have HFi := Lib.hid (And.intro hfi (And.intro hfe hff))
    rw [← hfi, ← hfe, ← hff]
    clear hfi hfe hff
    go_upto_region 7 with (fail)
    refine gen_world (S := fun u => Below z.heap.size z u ∧ u.heap[z.heap.size]? = some (.cells #[.bool fi, .int .i64 fe, .int .i64 ff, .slice ta tl tc] 35 (0, 0))) (one_new z _) (fun u1 hu => ?_)
    obtain ⟨hb, k1⟩ := hu
    have hb3 : Below u0.heap.size u0 u1 := hb2.trans (hb.mono hb2.size)
    have HR1 := Lib.hid (Keeps.row (Keeps.ofNew hb3 (fun _ => False)) HR0.out (fun _ _ => id))
    have HO1 := Lib.hid (HO0.out.later hb3)
    have BU1 := Lib.hid (BU0.out.trans (hb3.mono BU0.out.size))
    have HW3 := Lib.hid (HW2.out.later hb3)
    have HG1 := Lib.hid ((hb3.block _ (lt_of_block HG0.out)).trans HG0.out)
    have HTu1 := Lib.hid (HT1.out.later hb)
    obtain ⟨F1, hF⟩ : ∃ F, F = z.heap.size := ⟨_, rfl⟩
    rw [← hF] at k1 ⊢
    have HF1 := Lib.hid k1
    clear hb k1 hF hb2 hb3 HR0 HO0 BU0 HW2 HG0 HT1 v0 v1
    have hs1 : ¬ (sp : Int) < 1 := by have := HSp.out; omega
    have hs2 : ¬ (sp : Int) > 3000 := by have := HSp.out; omega
    have hs3 : IntKind.i64.wrap ((sp : Int) + (mo : Int)) = ((sp + mo : Nat) : Int) := by rw [IntWalk.i64_in _ (by have := HSp.out; have := HMo.out; omega)]; omega
    obtain ⟨v0, v1, -, -⟩ := box_cells HG1.out
    obtain ⟨T2, hT2⟩ : ∃ T2, T2 = sp + mo := ⟨_, rfl⟩
    rw [← hT2] at hs3
    have HT2 := Lib.hid hT2
    have E2 := Lib.hid (top_fr (doc' := false) (T2 := T2) (l2' := mo) E1.out (by have := HSp.out; omega))
    clear hT2
    go_wp2_with fail
    refine (HMM.out T2 o1 ⟨mo, false⟩ (by have := HT2.out; have := HSp.out; have := HMo.out; omega) u1 HR1.out HO1.out HW3.out E2.out).mono ?_
    rintro e z1 ⟨⟨tv, he, ht⟩, hb⟩
    have he2 : e = .returned (.tuple #[.agg #[.bool fi, .int .i64 fe, .int .i64 ff, tv], .int .i64 sp, .int .i64 0]) := by
      rw [he, HFi.out.1, HFi.out.2.1, HFi.out.2.2]
      simp only [aIs, aEn, aFar, aSp, aErr, Bool.not_false, Bool.true_and, Bool.false_eq_true, if_false]
      have h3 : (T2 : Int) - mo = sp := by have := HT2.out; omega
      rw [h3]
    subst he2
    have ht2 : TwIn z1 tv (foF o1) := ht
    clear he ht
    obtain ⟨tb, td, htv⟩ := ht2.val'
    rw [← HTl.out] at htv
    subst htv
    have HT1 := Lib.hid ht2
    have hb2 := hb
    clear hb ht2 hs1 hs2 hs3
    go_upto_region 12 with (fail)
    refine gen_world (S := fun u => Below z1.heap.size z1 u ∧ u.heap[z1.heap.size]? = some (.cells #[.bool fi, .int .i64 fe, .int .i64 ff, .slice tb tl td] 35 (0, 0))) (one_new z1 _) (fun u2 hu => ?_)
    obtain ⟨hb, k1⟩ := hu
    have hb3 : Below u1.heap.size u1 u2 := hb2.trans (hb.mono hb2.size)
    have HR2 := Lib.hid (Keeps.row (Keeps.ofNew hb3 (fun _ => False)) HR1.out (fun _ _ => id))
    have HO2 := Lib.hid (HO1.out.later hb3)
    have BU2 := Lib.hid (BU1.out.trans (hb3.mono BU1.out.size))
    have HW4 := Lib.hid (HW3.out.later hb3)
    have HG2 := Lib.hid ((hb3.block _ (lt_of_block HG1.out)).trans HG1.out)
    have HTu2 := Lib.hid (HTu1.out.later hb3)
    have HTv2 := Lib.hid (HT1.out.later hb)
    have HF2 := Lib.hid ((hb3.block _ (lt_of_block HF1.out)).trans HF1.out)
    obtain ⟨F2, hF⟩ : ∃ F, F = z1.heap.size := ⟨_, rfl⟩
    rw [← hF] at k1 ⊢
    have HH2 := Lib.hid k1
    clear hb k1 hF hb2 hb3 HR1 HO1 BU1 HW3 HG1 HT1 HTu1 HF1 v0 v1
    obtain ⟨v0, v1, -, -⟩ := box_cells HG2.out
    obtain ⟨T3, hT3⟩ : ∃ T3, T3 = sp - 1 := ⟨_, rfl⟩
    have hs3 : IntKind.i64.wrap ((sp : Int) - 1) = (T3 : Int) := by rw [IntWalk.i64_in _ (by have := HSp.out; omega)]; have := HSp.out; omega
    have HT3 := Lib.hid hT3
    clear hT3
    obtain ⟨o3, s3, e3, -⟩ := HS.out T3
    have E3 := Lib.hid e3
    have HOv := Lib.hid (top_over E1.out e3 (by have := HSp.out; have := HT3.out; omega))
    clear e3
    go_wp2_with fail
    refine (HMM.out T3 o3 s3 (by have := HT3.out; have := HSp.out; omega) u2 HR2.out HO2.out HW4.out E3.out).mono ?_
    rintro e z2 hP
    obtain ⟨⟨tv, rfl, ht⟩, hb2⟩ := match_full hP HOv.out
    obtain ⟨te, tf, htv⟩ := ht.val'
    subst htv
    clear hP ht hs3
    go_upto_region 13 with (fail)
    refine gen_world (S := fun u => Below z2.heap.size z2 u) (one_new z2 _).1 (fun u3 hb => ?_)
    have hb3 : Below u2.heap.size u2 u3 := hb2.trans (hb.mono hb2.size)
    have BU3 := Lib.hid (BU2.out.trans (hb3.mono BU2.out.size))
    have HTu3 := Lib.hid (HTu2.out.later hb3)
    have HTv3 := Lib.hid (HTv2.out.later hb3)
    have HF3 := Lib.hid ((hb3.block _ (lt_of_block HF2.out)).trans HF2.out)
    have HH3 := Lib.hid ((hb3.block _ (lt_of_block HH2.out)).trans HH2.out)
    clear hb hb2 hb3 v0 v1
    obtain ⟨x0, x1, x2, x3⟩ := four_box HF3.out
    obtain ⟨y0, y1, y2, y3⟩ := four_box HH3.out
    go_wp2_with fail
    refine (sameFound_any fi fe ff _ _ (foF o1) u3 HTu3.out.1 HTv3.out.1).mono ?_
    rintro e u4 ⟨rfl, hb⟩
    have BU4 := Lib.hid (BU3.out.trans (hb.mono BU3.out.size))
    clear hb
    go_wp2
    go_ret
    exact ⟨rfl, BU4.out⟩
end Go.Proofs.Ytkimkghldilliaa
namespace Go.Proofs.Ytkimkghldilliaa
open Go.ChangeShapes Go.WideShapes Go.ChangeAt Go.RowKit Go.ChangeMaps

theorem Try.cellsB : Try.prog.cellsOf 5 = 1 := by kernel_rfl
set_option maxRecDepth 100000 in
theorem meanSteps_lifted (os : Os) (started : os.Started) (H : Type) (enc : TypeId × Value → H) :
    ReturnsInHanded {} Try.checked os 4 .any (Rows.meanStepsSpec.pre6 enc Try.prog Try.f4 Rows.meanStepsRow.domain false) (Rows.meanStepsSpec.post enc Try.prog Try.f4 false true false false) := by
  refine returnsInHanded_of_change (C := Try.checked) Try.own started (by kernel_rfl) Try.func4
    (ChangeSpec.witness6 (enc := enc) (C := Try.checked) false ⟨#[], #[.int .i64 0, .slice none 0 0, .int .i64 0, .int .i64 0], []⟩ 8 (by kernel_rfl) (by kernel_rfl) (by kernel_rfl) (by kernel_rfl)) ?_
  intro W base args ds gs before hval0 hW _ _
  have hval : ∀ (j : Nat) t v, Try.f4.params[j]? = some t → args[j]? = some v → Value.okWide Try.prog W .any base t v := hval0
  have hW' := hW
  obtain ⟨p, q, hA0, hV, rfl, hfz, hnd⟩ := hW
  have hA : DataW.TrodAll enc Try.prog W 0 (fun _ => true) true Try.f4.params.toList args.toList ds p := hA0
  rw [Try.params4] at hA hval
  obtain ⟨v0, vs0, d0, ds0, p0, q0, hargs, rfl, rfl, h0, r0⟩ := trodAll_cons hA
  obtain ⟨v1, vs1, d1, ds1, p1, q1, rfl, rfl, rfl, h1, r1⟩ := trodAll_cons r0
  obtain ⟨v2, vs2, d2, ds2, p2, q2, rfl, rfl, rfl, h2, r2⟩ := trodAll_cons r1
  obtain ⟨v3, vs3, d3, ds3, p3, q3, rfl, rfl, rfl, h3, r3⟩ := trodAll_cons r2
  obtain ⟨rfl, rfl, rfl⟩ := trodAll_nil r3
  obtain rfl : args = #[v0, v1, v2, v3] := by cases args; simp_all
  obtain ⟨rfl, rfl⟩ := trodVars_none hV
  obtain ⟨n, rfl, rfl, rfl, w0⟩ := open_int Try.underlying3 (hval 0 3 v0 rfl rfl) h0
  obtain ⟨bs, hbs⟩ := open_bytes Try.underlying22 Try.underlying5 Try.cellsB (hval 1 22 v1 rfl rfl) h1
  obtain ⟨ru, rfl, rfl, rfl, w2⟩ := open_int Try.underlying3 (hval 2 3 v2 rfl rfl) h2
  obtain ⟨mo, rfl, rfl, rfl, w3⟩ := open_int Try.underlying3 (hval 3 3 v3 rfl rfl) h3
  refine (steps_any n v1 bs ru mo W hbs).mono fun e W' ⟨he, hb⟩ => ?_
  subst he
  exact ⟨_, rfl, law_post Try.laidOut (by rw [Try.params4]; decide +kernel) rfl rfl Try.underlying4 hb hW' rfl rfl rfl⟩

theorem meanSteps_holds : Rows.MeanStepsSaid :=
  OpenClaim.holds_of_wide 4 Try.f4 rfl rfl rfl rfl rfl rfl rfl ⟨rfl, rfl, rfl, rfl, rfl⟩ rfl rfl rfl rfl rfl (by kernel_rfl) Try.func4 (by kernel_rfl)
    (of_decide_eq_true (by kernel_rfl)) (by unfold Func.isWrapper; first | (rw [if_pos (by decide +kernel)]; kernel_rfl) | (rw [if_neg (by decide +kernel)]; exact ⟨rfl, rfl⟩))
    (fun os started H enc _ => meanSteps_lifted os started H enc)
end Go.Proofs.Ytkimkghldilliaa
