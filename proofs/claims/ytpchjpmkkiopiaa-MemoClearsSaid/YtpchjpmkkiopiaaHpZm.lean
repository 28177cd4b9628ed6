import Derived.Test.YtpchjpmkkiopiaaHpYm
namespace Go.Proofs.Ytpchjpmkkiopiaa
open Go.RowKit Go.Lib

/-- what is known in the midst of a step down. -/
structure DnS [Watch] (base : Nat) (w wr : World) (r m : Nat) (lv : Value) (L L' : List En) (n i0 i : Nat) : Prop where
  ge : i0 ≤ i
  row : RowIs base wr r m lv L'
  inv : DnI (pos L') n i (decide (i0 < i))
  prm : L'.Perm L
  len : L'.length = L.length
  far : ∀ k, n ≤ k → pos L' k = pos L k
  sam : i = i0 → L' = L
  kep : KeepH base w wr
set_option maxRecDepth 100000 in
set_option maxHeartbeats 4000000 in
theorem down_any [Watch] {base r m : Nat} {lv : Value} {L : List En} (i0 n : Nat) (w : World) (h : RowIs base w r m lv L) (hn : n ≤ L.length) (hi : i0 ≤ 100000) (hu : DnI (pos L) n i0 false) :
    Calls Try.prog 92 #[.iface 106 (.pointer (some ⟨r, 0, none⟩)), .int .i64 i0, .int .i64 n] w fun e w' => ∃ L' i, e = .returned (.bool (decide (i0 < i))) ∧ DnS base w w' r m lv L L' n i0 i ∧ UpI (pos L') n i ∧ (i0 < i → Hp (pos L') n) := by
  have mL : ∀ w, (method 290 106 (.pointer (some ⟨r, 0, none⟩)) "Less").run Try.prog w = .ok (117, .pointer (some ⟨r, 0, none⟩)) w := fun _ => by kernel_rfl
  have mS : ∀ w, (method 290 106 (.pointer (some ⟨r, 0, none⟩)) "Swap").run Try.prog w = .ok (120, .pointer (some ⟨r, 0, none⟩)) w := fun _ => by kernel_rfl
  have eL : ∀ args w, (callFunc 117 args).run Try.prog w = .ok (.enter 117 args) w := fun _ _ => by kernel_rfl
  have eS : ∀ args w, (callFunc 120 args).run Try.prog w = .ok (.enter 120 args) w := fun _ _ => by kernel_rfl
  have hle := h.le
  have H := Lib.hid (show DnS base w w r m lv L L n i0 i0 from ⟨Nat.le_refl _, h, by rw [show decide (i0 < i0) = false by simp]; exact hu, List.Perm.refl _, rfl, fun _ _ => rfl, fun _ => rfl, Keeps.refl _ _⟩)
  have Hn := Lib.hid hn
  have Hle := Lib.hid hle
  clear h hu hn hle
  go_enter Try.func92, Try.ntmps92
  go_wp2_with fail
  go_loopw [7] (fun v7 wr => ∃ (i : Nat) (L' : List En), v7 = .int .i64 i ∧ i ≤ 100000 ∧ DnS base w wr r m lv L L' n i0 i) (fun i _ => 100001 - (intOf i).toNat)
  case atStart => exact ⟨i0, L, rfl, hi, H.out⟩
  case round =>
    obtain ⟨i, L', rfl, hib, hd⟩ := hrel
    have HD := Lib.hid hd
    have hlen := hd.len
    clear hd H
    obtain ⟨j1, hj1⟩ : ∃ j1, j1 = 2 * i + 1 := ⟨_, rfl⟩
    have hw1 : IntKind.i64.wrap (2 * (i : Int)) = 2 * (i : Int) := IntWalk.i64_in _ (by omega)
    have hw2 : IntKind.i64.wrap (2 * (i : Int) + 1) = (j1 : Int) := (IntWalk.i64_in _ (by omega)).trans (by omega)
    have hw3 : IntKind.i64.wrap ((j1 : Int) + 1) = ((j1 + 1 : Nat) : Int) := (IntWalk.i64_in _ (by omega)).trans (by omega)
    obtain ⟨j2, hj2⟩ : ∃ j2, j2 = j1 + 1 := ⟨_, rfl⟩
    rw [← hj2] at hw3
    have HJ1 := Lib.hid hj1
    have HJ2 := Lib.hid hj2
    by_cases hge : n ≤ j1
    · have hq : decide ((n : Int) ≤ (j1 : Int)) = true := by simp; omega
      have hq2 : decide (n ≤ j1) = true := by simpa using hge
      have HNo := Lib.hid (show ∀ k, 0 < k → k < n → par k = i → En.le (pos L' i) (pos L' k) from fun k k0 kn kp => by unfold par at kp; omega)
      clear hge hj1 hj2 mL mS eL eS
      go_wp2
      go_ret
      obtain ⟨d1, d2⟩ := dn_done HD.out.inv HNo.out
      exact ⟨L', i, by simp, HD.out, d1, fun h => d2 (by simpa using h)⟩
    · have hq : decide ((n : Int) ≤ (j1 : Int)) = false := by simp; omega
      have hq2 : decide (n ≤ j1) = false := by simpa using hge
      have hj0 : ¬ ((j1 : Int) < 0) := by omega
      have Hlt := Lib.hid (show j1 < n by omega)
      have Hln := Lib.hid hlen
      clear hge hj1 hj2 hlen
      go_upto_region 6 with (fail)
      go_cut [33] (fun t33 w1 => ∃ b : Bool, t33 = .bool b ∧ (b = true → j2 < n ∧ En.lt (pos L' j2) (pos L' j1)) ∧ (b = false → j2 < n → En.le (pos L' j1) (pos L' j2)) ∧ Below wr.heap.size wr w1)
      case first =>
        by_cases h2 : j2 < n
        · have hq3 : decide ((j2 : Int) < (n : Int)) = true := by simp; omega
          have hq4 : decide (j2 < n) = true := by simpa using h2
          have H2 := Lib.hid h2
          have HL := Lib.hid (rLess_any j2 j1 wr HD.out.row (by rw [Hln.out]; have := Hn.out; omega) (by rw [Hln.out]; have := Hn.out; have := Hlt.out; omega))
          clear h2
          go_wp2_with fail
          refine HL.out.mono ?_
          rintro e w2 ⟨rfl, hb2⟩
          have HB2 := Lib.hid hb2
          clear hb2 HL
          go_wp2_with fail
          go_meet
          exact ⟨_, rfl, fun h => ⟨H2.out, by simpa using h⟩, fun h _ => show ¬ En.lt (pos L' j2) (pos L' j1) from by simpa using h, HB2.out⟩
        · have hq3 : decide ((j2 : Int) < (n : Int)) = false := by simp; omega
          have hq4 : decide (j2 < n) = false := by simpa using h2
          have H2 := Lib.hid h2
          clear h2
          go_wp2_with fail
          go_meet
          exact ⟨false, rfl, fun h => by simp at h, fun _ h => absurd h H2.out, Below.refl _ _⟩
      case rest =>
        obtain ⟨b, rfl, hb1, hb0, hbel⟩ := hcut
        have HRc := Lib.hid (HD.out.row.later hbel)
        have HKc := Lib.hid (KeepH.trans HD.out.kep (KeepH.ofBelow hbel))
        have HB1 := Lib.hid hb1
        have HB0 := Lib.hid hb0
        clear hbel hb1 hb0
        go_upto_if 33 with (fail)
        go_cut [9] (fun v9 w1 => ∃ jm : Nat, v9 = .int .i64 jm ∧ 0 < jm ∧ jm < n ∧ par jm = i ∧ (∀ k, 0 < k → k < n → par k = i → En.le (pos L' jm) (pos L' k)) ∧ wc = w1)
        case first =>
          cases b with
          | true =>
            go_wp2_with fail
            go_meet
            have h1 := HJ1.out
            have h2 := HJ2.out
            obtain ⟨h3, h4⟩ := HB1.out (by simp)
            exact ⟨j2, rfl, by omega, h3, by unfold par; omega, fun k k0 kn kp => by
              unfold par at kp
              have : k = j1 ∨ k = j2 := by omega
              rcases this with rfl | rfl
              · exact En.lt_le h4
              · exact En.le_refl _, rfl⟩
          | false =>
            go_wp2_with fail
            go_meet
            have h1 := HJ1.out
            have h2 := HJ2.out
            exact ⟨j1, rfl, by omega, Hlt.out, by unfold par; omega, fun k k0 kn kp => by
              unfold par at kp
              have : k = j1 ∨ k = j2 := by omega
              rcases this with rfl | rfl
              · exact En.le_refl _
              · exact HB0.out (by simp) kn, rfl⟩
        case rest =>
          obtain ⟨jm, rfl, hm0, hmn, hmp, hmin, rfl⟩ := hcut
          have HM0 := Lib.hid hm0
          have HMn := Lib.hid hmn
          have HMp := Lib.hid hmp
          have HMin := Lib.hid hmin
          have hil := par_lt hm0
          rw [hmp] at hil
          have HIl := Lib.hid hil
          have HnL := Lib.hid (show n ≤ L'.length by rw [Hln.out]; exact Hn.out)
          have hL := rLess_any jm i wc HRc.out (by have := HnL.out; omega) (by have := HnL.out; omega)
          clear hm0 hmn hmp hmin hil
          by_cases hlt : En.lt (pos L' jm) (pos L' i)
          · rw [decide_eq_true hlt] at hL
            have HL := Lib.hid hL
            have Hl2 := Lib.hid hlt
            clear hL hlt
            go_wp2_with fail
            refine HL.out.mono ?_
            rintro e w2 ⟨rfl, hb2⟩
            have HR2 := Lib.hid (HRc.out.later hb2)
            have HK2 := Lib.hid (KeepH.trans HKc.out (KeepH.ofBelow hb2))
            clear hb2 HL
            go_wp2_with fail
            refine (rSwap_any i jm w2 HR2.out (by have := HnL.out; have := HMn.out; have := HIl.out; omega) (by have := HnL.out; have := HMn.out; omega)).mono ?_
            rintro e w3 ⟨rfl, hr3, hk3⟩
            have HR3 := Lib.hid hr3
            have HK3 := Lib.hid (KeepH.trans HK2.out hk3)
            clear hr3 hk3
            go_wp2_with fail
            go_roundw
            case rel =>
              have h1 := HnL.out
              have h2 := HMn.out
              have h3 := HIl.out
              have h4 := HD.out.ge
              have hps := pos_swl (L := L') (i := i) (j := jm) (by omega) (by omega) (by omega)
              refine ⟨jm, swl L' i jm, rfl, by have := Hn.out; have := Hle.out; omega, ⟨by omega, HR3.out, ?_, (swl_perm (by omega) (by omega)).trans HD.out.prm, by rw [swl_len]; exact HD.out.len, fun k hk => ?_, fun e => by omega, HK3.out⟩⟩
              · rw [show decide (i0 < jm) = true by simp; omega, hps]
                exact dn_step HD.out.inv HM0.out HMn.out HMp.out HMin.out Hl2.out
              · rw [hps]
                unfold swp
                rw [if_neg (by omega), if_neg (by omega)]
                exact HD.out.far k hk
            case measure => have := HIl.out; have := HMn.out; have := Hn.out; have := Hle.out; simp [intOf]; omega
          · rw [decide_eq_false hlt] at hL
            have HL := Lib.hid hL
            have Hl2 := Lib.hid hlt
            clear hL hlt
            go_wp2_with fail
            refine HL.out.mono ?_
            rintro e w2 ⟨rfl, hb2⟩
            have HR2 := Lib.hid (HRc.out.later hb2)
            have HK2 := Lib.hid (KeepH.trans HKc.out (KeepH.ofBelow hb2))
            clear hb2 HL
            go_wp2
            go_ret
            obtain ⟨d1, d2⟩ := dn_done HD.out.inv (fun k k0 kn kp => En.le_trans Hl2.out (HMin.out k k0 kn kp))
            exact ⟨L', i, by simp, ⟨HD.out.ge, HR2.out, HD.out.inv, HD.out.prm, HD.out.len, HD.out.far, HD.out.sam, HK2.out⟩, d1, fun h => d2 (by simpa using h)⟩
end Go.Proofs.Ytpchjpmkkiopiaa
