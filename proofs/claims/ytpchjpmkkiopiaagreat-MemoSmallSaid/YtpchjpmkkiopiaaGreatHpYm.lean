import Derived.Test.YtpchjpmkkiopiaaGreatHpWm
namespace Go.Proofs.YtpchjpmkkiopiaaGreat
open Go.RowKit Go.Lib

set_option maxRecDepth 100000 in
set_option maxHeartbeats 2000000 in
theorem up_any [Watch] {base r m : Nat} {lv : Value} {L : List En} (j n : Nat) (w : World) (h : RowIs base w r m lv L) (hn : n ≤ L.length) (hj : j < n) (hu : UpI (pos L) n j) :
    Calls Tryz.prog 79 #[.iface 107 (.pointer (some ⟨r, 0, none⟩)), .int .i64 j] w fun e w' => e = .returned (.tuple #[]) ∧ ∃ L', RowIs base w' r m lv L' ∧ Hp (pos L') n ∧ L'.Perm L ∧ L'.length = L.length ∧ (∀ k, n ≤ k → pos L' k = pos L k) ∧ KeepH base w w' := by
  have H := Lib.hid h
  have Hu := Lib.hid hu
  have Hj := Lib.hid hj
  have Hnl := Lib.hid hn
  have mL : ∀ w, (method 287 107 (.pointer (some ⟨r, 0, none⟩)) "Less").run Tryz.prog w = .ok (115, .pointer (some ⟨r, 0, none⟩)) w := fun _ => by kernel_rfl
  have mS : ∀ w, (method 287 107 (.pointer (some ⟨r, 0, none⟩)) "Swap").run Tryz.prog w = .ok (118, .pointer (some ⟨r, 0, none⟩)) w := fun _ => by kernel_rfl
  have eL : ∀ args w, (callFunc 115 args).run Tryz.prog w = .ok (.enter 115 args) w := fun _ _ => by kernel_rfl
  have eS : ∀ args w, (callFunc 118 args).run Tryz.prog w = .ok (.enter 118 args) w := fun _ _ => by kernel_rfl
  clear h hu hj hn
  go_enter Tryz.func79, Tryz.ntmps79
  go_wp2_with fail
  go_loopw [1] (fun v1 wr => ∃ (j : Nat) (L' : List En), v1 = .int .i64 j ∧ j < n ∧ RowIs base wr r m lv L' ∧ UpI (pos L') n j ∧ L'.Perm L ∧ L'.length = L.length ∧ (∀ k, n ≤ k → pos L' k = pos L k) ∧ KeepH base w wr) (fun i _ => (intOf i).toNat)
  case atStart => exact ⟨j, L, rfl, Hj.out, H.out, Hu.out, List.Perm.refl _, rfl, fun _ _ => rfl, Keeps.refl _ _⟩
  case round =>
    obtain ⟨j, L', rfl, hjn, hr, hu, hp, hlen, hfar, hk⟩ := hrel
    have hj : j < L'.length := by rw [hlen]; have := Hnl.out; omega
    have HLen := Lib.hid hlen
    have HFar := Lib.hid hfar
    have HJn := Lib.hid hjn
    have HR := Lib.hid hr
    have HU := Lib.hid hu
    have HP := Lib.hid hp
    have HK := Lib.hid hk
    have HJ := Lib.hid hj
    have hle : L'.length ≤ 100000 := hr.le
    clear hr hu hp hk H Hu Hj hlen hfar hjn
    by_cases h0 : j = 0
    · have H0 := Lib.hid h0
      have hw : IntKind.i64.wrap ((j : Int) - 1) = -1 := (IntWalk.i64_in _ (by omega)).trans (by omega)
      have hq1 : ((0 : Int) == (j : Int)) = true := by rw [h0]; rfl
      have hq2 : decide ((0 : Int) = (j : Int)) = true := by simp; omega
      have hq3 : (0 : Int) = (j : Int) := by omega
      have HQ := Lib.hid hq3
      clear h0 hq3 mL mS eL eS
      go_wp2
      all_goals first | (exfalso; have := HQ.out; omega) | skip
      all_goals go_end0
      all_goals exact ⟨rfl, L', HR.out, up_done HU.out (.inl H0.out), HP.out, HLen.out, HFar.out, HK.out⟩
    · have hpj := par_lt (Nat.pos_of_ne_zero h0)
      have hw : IntKind.i64.wrap ((j : Int) - 1) = ((j - 1 : Nat) : Int) := (IntWalk.i64_in _ (by omega)).trans (by omega)
      obtain ⟨jj, hjj⟩ : ∃ jj, jj = j - 1 := ⟨_, rfl⟩
      rw [← hjj] at hw
      have hdv : ((jj : Nat) : Int) / 2 = ((par j : Nat) : Int) := by unfold par; omega
      obtain ⟨pj, hpe⟩ : ∃ pj, pj = par j := ⟨_, rfl⟩
      rw [← hpe] at hdv hpj
      have hq1 : ((pj : Int) == (j : Int)) = false := by simp; omega
      have hq3 : ¬ ((pj : Int) = (j : Int)) := by omega
      have Hpe := Lib.hid hpe
      have H0 := Lib.hid h0
      by_cases hlt : En.lt (pos L' j) (pos L' pj)
      · have hL := rLess_any j pj wr HR.out hj (by omega)
        rw [decide_eq_true hlt] at hL
        have HL := Lib.hid hL
        have Hlt := Lib.hid hlt
        clear hjj h0 hpe hL hlt
        go_wp2_with fail
        refine HL.out.mono ?_
        rintro e w2 ⟨rfl, hb2⟩
        have HR2 := Lib.hid (HR.out.later hb2)
        have HK2 := Lib.hid (KeepH.trans HK.out (KeepH.ofBelow hb2))
        clear hb2
        go_wp2_with fail
        refine (rSwap_any pj j w2 HR2.out (by have := HJ.out; omega) HJ.out).mono ?_
        rintro e w3 ⟨rfl, hr3, hk3⟩
        have HR3 := Lib.hid hr3
        have HK3 := Lib.hid (KeepH.trans HK2.out hk3)
        clear hr3 hk3
        go_wp2_with fail
        go_roundw
        case rel =>
          have hn := swl_len L' pj j
          have hlt := Hlt.out
          have hpe := Hpe.out
          have hps := pos_swl (L := L') (i := pj) (j := j) (by have := HJ.out; omega) HJ.out (by omega)
          refine ⟨pj, swl L' pj j, rfl, by have := HJn.out; omega, HR3.out, ?_, (swl_perm (by have := HJ.out; omega) HJ.out).trans HP.out, by rw [hn]; exact HLen.out, fun k hk => ?_, HK3.out⟩
          · rw [hps, hpe]
            rw [hpe] at hlt
            exact up_step HU.out (Nat.pos_of_ne_zero H0.out) HJn.out hlt
          · have := HJn.out
            rw [hps]
            unfold swp
            rw [if_neg (by omega), if_neg (by omega)]
            exact HFar.out k hk
        case measure => simp [intOf]; omega
      · have hL := rLess_any j pj wr HR.out hj (by omega)
        rw [decide_eq_false hlt] at hL
        have HL := Lib.hid hL
        have Hlt := Lib.hid hlt
        clear hjj h0 hpe hL hlt
        go_wp2_with fail
        refine HL.out.mono ?_
        rintro e w2 ⟨rfl, hb2⟩
        have HR2 := Lib.hid (HR.out.later hb2)
        have HK2 := Lib.hid (KeepH.trans HK.out (KeepH.ofBelow hb2))
        clear hb2
        go_wp2
        go_end0
        exact ⟨rfl, L', HR2.out, up_done HU.out (.inr (by rw [← Hpe.out]; exact Hlt.out)), HP.out, HLen.out, HFar.out, HK2.out⟩
end Go.Proofs.YtpchjpmkkiopiaaGreat
