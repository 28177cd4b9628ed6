/-
  The document's answer: what is told.
-/
import Derived.Test.YtebgleehmgmfbaaRefG
namespace Go.Proofs.Ytebgleehmgmfbaa
open Go.RowKit Go.Lib

theorem at_lit (v : Value) (l : List An) (n : Nat) (w : World) (h : AnsAt w v l) :
    Calls Try.prog 17 #[v, .int .i64 n] w fun e w' => ∃ ao cap, e = .returned (.agg #[.bool (atA l n).is, .int .i64 (atA l n).en, .int .i64 (atA l n).far, .slice ao (atA l n).tree.length cap, .int .i64 (atA l n).err]) ∧ (atA l n).v = .slice ao (atA l n).tree.length cap ∧ Below w.heap.size w w' := by
  refine (at_any v l n w h).mono ?_
  rintro e w' ⟨rfl, hb⟩
  have ht := atA_tw h n
  obtain ⟨ao, cap, hv⟩ := ht.val
  exact ⟨ao, cap, by simp only [anv, hv], hv, hb⟩
def farL (l : List An) (n : Nat) : Int := if n = 0 then (atA l 0).far else farA l (n - 1)
theorem farL_next (l : List An) (n : Nat) : (if farL l n < (atA l n).far then (atA l n).far else farL l n) = farL l (n + 1) := by
  unfold farL
  cases n with
  | zero => simp [farA]
  | succ n =>
    simp only [Nat.add_sub_cancel, farA, Nat.succ_ne_zero, if_false]
    split <;> omega

set_option maxRecDepth 100000 in
set_option maxHeartbeats 4000000 in
theorem refGrow_any (av : Value) {l : List An} {T : Nat} (w : World) (h : AnsAt w av l) (hl : l.length < 90000) (hT : Stops l T) :
    Calls Try.prog 13 #[av] w fun e w' => ∃ v, e = .returned (.tuple #[.agg #[.bool (grR l T).is, .int .i64 (grR l T).en, .int .i64 (grR l T).far, v], .int .i64 (grR l T).n, .int .i64 (grR l T).err]) ∧ (∀ w0, AnsAt w0 av l → TwAt w0 v (grR l T).tree) ∧ Below w.heap.size w w' := by
  have hTl : T ≤ l.length := by
    rcases Nat.lt_or_ge l.length T with h | h
    · exact absurd (hT.1 _ h) (onA_end l)
    · exact h
  have HA := Lib.hid (fun (wq : World) (hb : Below w.heap.size w wq) (n : Nat) => at_lit av l n wq (h.later hb))
  have HF := Lib.hid (fun (wq : World) (hb : Below w.heap.size w wq) => refFound_any av wq (h.later hb) hl hT)
  have HTW := Lib.hid (fun (j : Nat) (w0 : World) (h0 : AnsAt w0 av l) => atA_tw h0 j)
  have hT6 : T < 100000 := by omega
  obtain ⟨aao, acap, rfl⟩ := h.val
  obtain ⟨z, hz⟩ : ∃ z, z = l.length := ⟨_, rfl⟩
  rw [← hz] at HA HF HTW ⊢
  obtain ⟨T1, hT1⟩ : ∃ T1, T1 = T + 1 := ⟨_, rfl⟩
  rw [← hT1] at HF
  have HT1 := Lib.hid hT1
  have hw : IntKind.i64.wrap ((T1 : Int) - 1) = (T : Int) := (IntWalk.i64_in _ (by omega)).trans (by omega)
  clear h hT hTl hl hz hT1
  go_enter Try.func13, Try.ntmps13
  go_upto_region 1 with (fail)
  refine gen_world (S := fun u => Below w.heap.size w u ∧ u.heap[w.heap.size]? = some (.cells #[.bool false, .int .i64 0, .int .i64 0, .slice none 0 0] 38 (0, 0))) (one_new w _) (fun u hu => ?_)
  obtain ⟨hb, h1⟩ := hu
  have Hb := Lib.hid hb
  have H1 := Lib.hid h1
  clear hb h1
  go_wp2_with fail
  refine (HF.out u Hb.out).mono ?_
  rintro e w2 ⟨fv, rfl, hown, hb2⟩
  obtain ⟨fo, fc, rfl⟩ := own_val hown
  have Hown := Lib.hid hown
  have H12 := Lib.hid ((hb2.block _ (lt_of_block H1.out)).trans H1.out)
  have Hb2 := Lib.hid (Hb.out.trans (hb2.mono Hb.out.size))
  clear hown hb2 H1 Hb HF
  go_upto_region 2 with (fail)
  go_wp2_with fail
  refine (HA.out w2 Hb2.out T).mono ?_
  rintro e w3 ⟨xo, xc, rfl, htw, hb3⟩
  have Htw := Lib.hid htw
  have Hown3 := Lib.hid (row_keepT (T := []) (B := 0) (mp := false) Hown.out (KeepT.ofBelow hb3) (by simp))
  have H13 := Lib.hid ((hb3.block _ (lt_of_block H12.out)).trans H12.out)
  have Hb3 := Lib.hid (Hb2.out.trans (hb3.mono Hb2.out.size))
  clear htw hb3 H12 Hb2 Hown
  go_upto_region 3 with (fail)
  refine gen_world (S := fun u => Below w3.heap.size w3 u ∧ u.heap[w3.heap.size]? = some (.cells #[.bool (atA l T).is, .int .i64 (atA l T).en, .int .i64 (atA l T).far, .slice xo (atA l T).tree.length xc, .int .i64 (atA l T).err] 53 (0, 0))) (one_new w3 _) (fun u4 hu => ?_)
  obtain ⟨hb4, hx⟩ := hu
  have HX := Lib.hid hx
  have Hown4 := Lib.hid (row_keepT (T := []) (B := 0) (mp := false) Hown3.out (KeepT.ofBelow hb4) (by simp))
  have H14 := Lib.hid ((hb4.block _ (lt_of_block H13.out)).trans H13.out)
  have Hb4 := Lib.hid (Hb3.out.trans (hb4.mono Hb3.out.size))
  have hn4 : w.heap.size < w3.heap.size := lt_of_block H13.out
  obtain ⟨X, hX⟩ : ∃ X, X = w3.heap.size := ⟨_, rfl⟩
  rw [← hX] at HX hn4 ⊢
  obtain ⟨R, hR⟩ : ∃ R, R = w.heap.size := ⟨_, rfl⟩
  rw [← hR] at H14 hn4 ⊢
  have HR := Lib.hid hR
  have Hn4 := Lib.hid hn4
  obtain ⟨x0, x1, x2, x3, x4, -⟩ := five_box HX.out
  obtain ⟨r0, r1, r2, r3, k0, k1, k2, k3⟩ := four_box H14.out
  clear hb4 hx hX hR hn4 H13 Hb3 Hown3 Htw
  by_cases he : (atA l T).err = 0
  · have qe : ((atA l T).err == 0) = true := by rw [he]; rfl
    have qe2 : decide ((atA l T).err = 0) = true := by rw [he]; rfl
    have qe3 : ((atA l T).err != 0) = false := by rw [he]; rfl
    have He := Lib.hid he
    clear he
    go_upto_region 5 with (fail)
    clear x0 x1 x2 x3 x4 r0 r1 r2 r3 k0 k1 k2 k3 HX
    have q43 := an_field0
    have q44 := fo_field2
    have q45 := fo_field1
    go_wp2_with fail
    refine (HA.out u4 Hb4.out 0).mono ?_
    rintro e w5 ⟨yo, yc, rfl, -, hb5⟩
    have HB5 := Lib.hid hb5
    have HT6 := Lib.hid hT6
    clear hb5
    go_wp2_with fail
    go_loopw [8, 9] (fun v8 v9 wr => ∃ n : Nat, n ≤ T1 ∧ v9 = .int .i64 n ∧ v8 = .int .i64 (farL l n) ∧ Below u4.heap.size u4 wr) (fun _ i _ => T1 - (intOf i).toNat)
    case atStart => exact ⟨0, Nat.zero_le _, rfl, by simp [farL], HB5.out⟩
    case round =>
      obtain ⟨n, hn, rfl, rfl, hbel⟩ := hrel
      have Hbel := Lib.hid hbel
      clear hbel
      by_cases hlt : n < T1
      · have hlt' : (n : Int) < T1 := by omega
        have hw2 : IntKind.i64.wrap ((n : Int) + 1) = (n : Int) + 1 := IntWalk.i64_in _ (by have := HT6.out; have := HT1.out; omega)
        obtain ⟨nf, hnf⟩ : ∃ nf, nf = farL l (n + 1) := ⟨_, rfl⟩
        have hmax := farL_next l n
        rw [← hnf] at hmax
        have Hnf := Lib.hid hnf
        have Hlt := Lib.hid hlt
        clear hnf hlt hn
        go_wp2_with fail
        refine (HA.out wr (Hb4.out.trans (Hbel.out.mono Hb4.out.size)) n).mono ?_
        rintro e w6 ⟨yo, yc, rfl, -, hb6⟩
        have HB6 := Lib.hid hb6
        clear hb6
        go_wp2_with fail
        go_roundw
        case rel => exact ⟨n + 1, Hlt.out, by go_num, by rw [Hnf.out], Hbel.out.trans (HB6.out.mono Hbel.out.size)⟩
        case measure => have := Hlt.out; simp [intOf]; omega
      · have hlt' : ¬ (n : Int) < T1 := by omega
        have HnT := Lib.hid (show n = T1 by omega)
        have Hr := Lib.hid ((Hbel.out.block _ (lt_of_block H14.out)).trans H14.out)
        have Howr := Lib.hid (row_keepT (T := []) (B := 0) (mp := false) Hown4.out (KeepT.ofBelow Hbel.out) (by simp))
        obtain ⟨r0, r1, r2, r3, k0, k1, k2, k3⟩ := four_box Hr.out
        clear hlt hn
        by_cases h0 : T = 0
        · have q0 : decide ((T : Int) = 0) = true := by simp; omega
          have q1 : ((T : Int) == 0) = true := by simp; omega
          have H0 := Lib.hid h0
          clear h0
          go_wp2
          obtain ⟨q, hq⟩ := set4 Hr.out (.bool false) (.int .i64 0) (.int .i64 (farL l n)) (.slice none 0 0)
          obtain ⟨q0, q1, q2, q3, -⟩ := four_box q
          refine bodyPost_ret (v := .tuple #[.agg #[.bool false, .int .i64 0, .int .i64 (farL l n), .slice none 0 0], .int .i64 T1, .int .i64 0]) (by simp [results, Try.f13, go_sem, q0, q1, q2, q3]) rfl ?_
          have e0 := H0.out
          have e : grR l T = ⟨false, 0, farL l n, [], T1, 0⟩ := by unfold grR; rw [if_pos He.out, HnT.out, HT1.out]; subst e0; simp [lastEn, lastT, farN, farL]
          rw [e]
          exact ⟨.slice none 0 0, rfl, fun w0 _ => (TwIn.nil w0).1, Below.keeps (Hb4.out.trans (Hbel.out.mono Hb4.out.size)) hq (Nat.le_of_eq HR.out.symm)⟩
        · have q0 : decide ((T : Int) = 0) = false := by simp; omega
          have q1 : ((T : Int) == 0) = false := by simp; omega
          have q2 : decide (T = 0) = false := by simpa using h0
          obtain ⟨j, hj⟩ : ∃ j, j = T - 1 := ⟨_, rfl⟩
          have hw2 : IntKind.i64.wrap ((T : Int) - 1) = (j : Int) := (IntWalk.i64_in _ (by have := HT6.out; omega)).trans (by omega)
          have hjk : (j : Int) < (T : Int) := by omega
          obtain ⟨nb, no, rfl, n0⟩ := nums_cell Howr.out j (by omega)
          have H0 := Lib.hid h0
          have Hj := Lib.hid hj
          clear h0 hj
          go_wp2_with fail
          refine (HA.out wr (Hb4.out.trans (Hbel.out.mono Hb4.out.size)) j).mono ?_
          rintro e w6 ⟨yo, yc, rfl, htw, hb6⟩
          have Htw := Lib.hid htw
          have Hr6 := Lib.hid ((hb6.block _ (lt_of_block Hr.out)).trans Hr.out)
          have HB6 := Lib.hid ((Hb4.out.trans (Hbel.out.mono Hb4.out.size)).trans (hb6.mono (Hb4.out.trans (Hbel.out.mono Hb4.out.size)).size))
          clear htw hb6 r0 r1 r2 r3 k0 k1 k2 k3
          go_upto_region 13 with (fail)
          refine gen_world (S := fun u => Below w6.heap.size w6 u ∧ u.heap[w6.heap.size]? = some (.cells #[.bool (atA l j).is, .int .i64 (atA l j).en, .int .i64 (atA l j).far, .slice yo (atA l j).tree.length yc] 38 (0, 0))) (one_new w6 _) (fun u7 hu => ?_)
          obtain ⟨hb7, hx⟩ := hu
          have Hr7 := Lib.hid ((hb7.block _ (lt_of_block Hr6.out)).trans Hr6.out)
          have HB7 := Lib.hid (HB6.out.trans (hb7.mono HB6.out.size))
          obtain ⟨x0, x1, x2, x3, -⟩ := four_box hx
          obtain ⟨r0, r1, r2, r3, k0, k1, k2, k3⟩ := four_box Hr7.out
          clear hb7 hx HB6 Hr6
          go_wp2
          obtain ⟨q, hq⟩ := set4 Hr7.out (.bool true) (.int .i64 (atA l j).en) (.int .i64 (farL l n)) (.slice yo (atA l j).tree.length yc)
          obtain ⟨q0, q1, q2, q3, -⟩ := four_box q
          refine bodyPost_ret (v := .tuple #[.agg #[.bool true, .int .i64 (atA l j).en, .int .i64 (farL l n), .slice yo (atA l j).tree.length yc], .int .i64 T1, .int .i64 0]) (by simp [results, Try.f13, go_sem, q0, q1, q2, q3]) rfl ?_
          have e0 := H0.out
          have e : grR l T = ⟨true, (atA l j).en, farL l n, (atA l j).tree, T1, 0⟩ := by
            have e1 : decide (0 < T) = true := by simp; omega
            unfold grR; rw [if_pos He.out, HnT.out, HT1.out, Hj.out, e1]; simp [lastEn, lastT, farN, farL, e0]
          rw [e]
          have hbe := Below.keeps HB7.out hq (Nat.le_of_eq HR.out.symm)
          exact ⟨_, rfl, fun w0 h0 => by have htj := HTW.out j w0 h0; rw [Htw.out] at htj; exact htj, hbe⟩
  · have qe : ((atA l T).err == 0) = false := by simpa using he
    have qe2 : decide ((atA l T).err = 0) = false := by simpa using he
    have qe3 : ((atA l T).err != 0) = true := by simpa using he
    have He := Lib.hid he
    clear he
    go_wp2_with fail
    go_region
    all_goals go_wp2
    all_goals
      obtain ⟨q, hq⟩ := set4 H14.out (.bool false) (.int .i64 0) (.int .i64 0) (.slice none 0 0)
      obtain ⟨q0, q1, q2, q3, -⟩ := four_box q
      refine bodyPost_ret (v := .tuple #[.agg #[.bool false, .int .i64 0, .int .i64 0, .slice none 0 0], .int .i64 0, .int .i64 (atA l T).err]) (by simp [results, Try.f13, go_sem, q0, q1, q2, q3]) rfl ?_
      have e : grR l T = ⟨false, 0, 0, [], 0, (atA l T).err⟩ := by unfold grR; rw [if_neg He.out]
      rw [e]
      exact ⟨.slice none 0 0, rfl, fun w0 _ => (TwIn.nil w0).1, (Below.keeps Hb4.out hq (Nat.le_of_eq HR.out.symm)).drew⟩
end Go.Proofs.Ytebgleehmgmfbaa
