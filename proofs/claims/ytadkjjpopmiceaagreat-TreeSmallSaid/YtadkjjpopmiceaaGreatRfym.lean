import Derived.Test.YtadkjjpopmiceaaGreatRfxm
namespace Go.Proofs.YtadkjjpopmiceaaGreat
open Go.RowKit Go.Lib

theorem rowL_lt {l : List Tw} : ∀ (k n : Nat) (rs : List Nat), rowL l k n = some rs → ∀ r ∈ rs, r < l.length := fun k => by
  induction k with
  | zero => intro n rs hrs r hr; simp [rowL] at hrs; subst hrs; simp at hr
  | succ k ih =>
    intro n rs hrs r hr
    simp only [rowL, Option.bind_eq_some_iff, Option.map_eq_some_iff] at hrs
    obtain ⟨m, hm, q, hq, rfl⟩ := hrs
    rcases List.mem_cons.1 hr with rfl | hr
    · exact (rAft_lt l hm).2.2
    · exact ih m q hq r hr
theorem rowD_lt {l : List Tw} (k n : Nat) : ∀ r ∈ (rowL l k n).getD [], r < l.length := by
  intro r hr
  cases h : rowL l k n with
  | none => rw [h] at hr; simp at hr
  | some rs => rw [h] at hr; exact rowL_lt _ _ _ h r hr
theorem refR_none {l : List Tw} (h : rootsL l l.length 0 = none) : refRight l = false := by unfold refRight; rw [h]
theorem refR_some {l : List Tw} {top : List Nat} (h : rootsL l l.length 0 = some top) : refRight l = (apartB l top && (List.range l.length).all (refOk l)) := by unfold refRight; rw [h]
theorem refR_no {l : List Tw} {top : List Nat} (h : rootsL l l.length 0 = some top) {n : Nat} (hn : n < l.length) (hk : refOk l n = false) : refRight l = false := by
  rw [refR_some h]
  have : (List.range l.length).all (refOk l) = false := List.all_eq_false.2 ⟨n, by simpa using hn, by simp [hk]⟩
  rw [this, Bool.and_false]
theorem refR_yes {l : List Tw} {top : List Nat} (h : rootsL l l.length 0 = some top) (ha : apartB l top = true) (hk : ∀ n, n < l.length → refOk l n = true) : refRight l = true := by
  rw [refR_some h, ha, Bool.true_and, List.all_eq_true]
  intro n hn
  exact hk n (by simpa using hn)
abbrev rowD (l : List Tw) (n : Nat) : List Nat := (rowL l (atT l n).kids.toNat (n + 1)).getD []
theorem refOk_def (l : List Tw) (n : Nat) : refOk l n = (decide (0 ≤ (atT l n).rule ∧ 0 ≤ (atT l n).lev ∧ (atT l n).lev ≤ 99) && spanB (atT l n) && apartB l (rowD l n) && (rowD l n).all fun i => insB (atT l i) (atT l n)) := rfl
set_option maxRecDepth 100000 in
set_option maxHeartbeats 4000000 in
theorem rRight_any (v : Value) (l : List Tw) (w : World) (h : TwRow w v l) :
    Calls Tryz.prog 8 #[v] w fun e w' => e = .returned (.bool (rightB l)) ∧ Below w.heap.size w w' := by
  have H := Lib.hid h
  have HRf := Lib.hid (ref_right h.ok)
  have hl := h.len
  obtain ⟨ao, cap, rfl⟩ := h.at'.val
  obtain ⟨len, hlen⟩ : ∃ len, len = l.length := ⟨_, rfl⟩
  have HLe := Lib.hid hlen
  rw [← hlen] at hl H ⊢
  have HRo := Lib.hid (rRoots_any (by rw [← HLe.out]; exact hl) _ _ H.out.at')
  clear h
  cases hro : rootsL l l.length 0 with
  | none =>
    rw [hro] at HRo
    have HF := Lib.hid (show rightB l = false from by rw [← HRf.out, refR_none hro])
    clear hro hlen
    go_enter Tryz.func8, Tryz.ntmps8
    go_wp2_with fail
    refine HRo.out.mono ?_
    rintro e w1 ⟨v', rfl, ho, hb⟩
    clear ho
    go_wp2
    go_ret
    exact ⟨ret_bool HF.out.symm, hb⟩
  | some top =>
    rw [hro] at HRo
    have HT := Lib.hid hro
    have htl : ∀ r ∈ top, r < l.length := rowL_lt _ _ _ (rootsL_row l l.length 0 top (Nat.zero_le _) hro).1
    have HTl := Lib.hid htl
    clear hro hlen htl
    go_enter Tryz.func8, Tryz.ntmps8
    go_wp2_with fail
    refine HRo.out.mono ?_
    rintro e w1 ⟨v', rfl, ho, hb⟩
    have HB1 := Lib.hid hb
    have hnm := (show OwnN w.heap.size w1 v' top from ho).nm
    have HAp := Lib.hid (rApart_any _ v' w1 (H.out.at'.later hb) hnm HTl.out (by rw [← HLe.out]; exact hl))
    clear ho hb hnm HRo
    cases hap : apartB l top with
    | false =>
      rw [hap] at HAp
      have HF := Lib.hid (show rightB l = false from by rw [← HRf.out, refR_some HT.out, hap, Bool.false_and])
      clear hap
      go_wp2_with fail
      refine HAp.out.mono ?_
      rintro e w2 ⟨rfl, hb⟩
      go_wp2
      go_ret
      exact ⟨ret_bool HF.out.symm, HB1.out.trans (hb.mono HB1.out.size)⟩
    | true =>
      rw [hap] at HAp
      have HA := Lib.hid hap
      clear hap
      go_wp2_with fail
      refine HAp.out.mono ?_
      rintro e w2 ⟨rfl, hb⟩
      have HB2 := Lib.hid (HB1.out.trans (hb.mono HB1.out.size))
      clear hb HAp
      go_wp2
      go_loopw [5] (fun i wr => ∃ n : Nat, n ≤ len ∧ i = .int .i64 n ∧ Below w.heap.size w wr ∧ Hid (∀ m, m < n → refOk l m = true)) (fun i _ => len - (intOf i).toNat)
      case atStart => exact ⟨0, by omega, rfl, HB2.out, Lib.hid (fun m hm => absurd hm (by omega))⟩
      case round =>
        obtain ⟨n, hn, rfl, hbel, HI⟩ := hrel
        by_cases hlt : n < len
        · have hlt' : (n : Int) < len := by omega
          have hnL : n < l.length := by rw [← HLe.out]; exact hlt
          have HB := Lib.hid hbel
          have HTr := Lib.hid (H.out.later hbel)
          obtain ⟨b, off, rfl, -, c0, c1, c2, c3, c4⟩ := HTr.out.at'.cells.2.2.2.2 n hnL
          rw [← atT_get l hnL] at c0 c1 c2 c3 c4
          have HNo := Lib.hid (fun hk => (HRf.out.symm.trans (refR_no HT.out hnL hk)).symm)
          have HD := Lib.hid (refOk_def l n)
          obtain ⟨ru, hru⟩ : ∃ x, x = (atT l n).rule := ⟨_, rfl⟩
          obtain ⟨lv, hlv⟩ : ∃ x, x = (atT l n).lev := ⟨_, rfl⟩
          obtain ⟨fr, hfr⟩ : ∃ x, x = (atT l n).fr := ⟨_, rfl⟩
          obtain ⟨tz, htz⟩ : ∃ x, x = (atT l n).to := ⟨_, rfl⟩
          obtain ⟨kk, hkk⟩ : ∃ x, x = (atT l n).kids := ⟨_, rfl⟩
          rw [← hru] at c0 HD
          rw [← hlv] at c1 HD
          rw [← hfr] at c2
          rw [← htz] at c3
          rw [← hkk] at c4
          have HFr := Lib.hid hfr
          have HTz := Lib.hid htz
          have HKk := Lib.hid hkk
          clear hbel hru hlv hfr htz hkk
          by_cases g1 : ru < 0
          · have hno := HNo.out (by rw [HD.out]; simp; omega)
            have HF := Lib.hid hno
            clear hno
            go_wp2
            go_ret
            exact ⟨ret_bool HF.out, HB.out⟩
          by_cases g2 : lv < 0
          · have hno := HNo.out (by rw [HD.out]; simp; omega)
            have HF := Lib.hid hno
            clear hno
            go_wp2
            go_ret
            exact ⟨ret_bool HF.out, HB.out⟩
          by_cases g3 : 99 < lv
          · have hno := HNo.out (by rw [HD.out]; simp; omega)
            have HF := Lib.hid hno
            clear hno
            go_wp2
            go_ret
            exact ⟨ret_bool HF.out, HB.out⟩
          have HD2 := Lib.hid (show refOk l n = (srB fr tz && apartB l (rowD l n) && (rowD l n).all fun i => insB (atT l i) (atT l n)) from by
            have he : decide (0 ≤ ru ∧ 0 ≤ lv ∧ lv ≤ 99) = true := by simp; omega
            rw [HD.out, he, Bool.true_and, HFr.out, HTz.out]
            rfl)
          have HSp := Lib.hid (fun u => rSpan_any fr tz u)
          cases hsp : srB fr tz with
          | false =>
            rw [hsp] at HSp
            have HF := Lib.hid (HNo.out (by rw [HD2.out, hsp]; rfl))
            clear hsp
            go_wp2_with fail
            refine (HSp.out _).mono ?_
            rintro e w3 ⟨rfl, hb⟩
            go_wp2
            go_ret
            exact ⟨ret_bool HF.out, HB.out.trans (hb.mono HB.out.size)⟩
          | true =>
            rw [hsp] at HSp
            have HD3 := Lib.hid (show refOk l n = (apartB l (rowD l n) && (rowD l n).all fun i => insB (atT l i) (atT l n)) from by rw [HD2.out, hsp, Bool.true_and])
            clear hsp HD HD2
            go_wp2_with fail
            refine (HSp.out _).mono ?_
            rintro e w3 ⟨rfl, hb⟩
            have HB3 := Lib.hid (HB.out.trans (hb.mono HB.out.size))
            clear c0 c1 c2 c3
            have c4 := cell_later hb c4
            have HT3 := Lib.hid (HTr.out.later hb)
            clear hb HSp HTr
            have HRw := Lib.hid (rRow_any (by rw [← HLe.out]; exact hl) (n + 1) kk _ w3 HT3.out.at' hnL)
            go_wp2_with fail
            refine HRw.out.mono ?_
            rintro e w4 ⟨vr, rfl, ho, hb⟩
            have HB4 := Lib.hid (HB3.out.trans (hb.mono HB3.out.size))
            have HT4 := Lib.hid (HT3.out.later hb)
            have hnm := ho.nm
            have hnm2 : NmAt w4 vr (rowD l n) := by rw [HKk.out] at hnm; exact hnm
            have hlt2 : ∀ r ∈ rowD l n, r < l.length := rowD_lt _ _
            obtain ⟨R, hR⟩ : ∃ R, R = rowD l n := ⟨_, rfl⟩
            rw [← hR] at hnm2 hlt2 HD3
            have HAp := Lib.hid (rApart_any _ vr w4 HT4.out.at' hnm2 hlt2 (by rw [← HLe.out]; exact hl))
            obtain ⟨ka, kc, rfl, hk1, hk2⟩ := hnm2.val
            have HNm := Lib.hid hnm2
            have HL2 := Lib.hid hlt2
            obtain ⟨rn, hrn⟩ : ∃ rn, rn = R.length := ⟨_, rfl⟩
            have HRn := Lib.hid hrn
            rw [← hrn] at HNm HAp hk1
            rw [← hrn]
            have hrn2 : rn ≤ 9223372036854775807 := by unfold maxLen at hk2; omega
            clear ho hb hnm hnm2 hlt2 hR hrn hk1 hk2 c4 HRw
            cases hap : apartB l R with
            | false =>
              rw [hap] at HAp
              have HF := Lib.hid (HNo.out (by rw [HD3.out, hap]; rfl))
              clear hap
              go_wp2_with fail
              refine HAp.out.mono ?_
              rintro e w5 ⟨rfl, hb⟩
              go_wp2
              go_ret
              exact ⟨ret_bool HF.out, HB4.out.trans (hb.mono HB4.out.size)⟩
            | true =>
              rw [hap] at HAp
              have HD4 := Lib.hid (show refOk l n = R.all (fun i => insB (atT l i) (atT l n)) from by rw [HD3.out, hap, Bool.true_and])
              clear hap HD3
              go_wp2_with fail
              refine HAp.out.mono ?_
              rintro e w5 ⟨rfl, hb⟩
              have HB5 := Lib.hid (HB4.out.trans (hb.mono HB4.out.size))
              have HT5 := Lib.hid (HT4.out.later hb)
              have HN5 := Lib.hid (HNm.out.later hb)
              clear hb HAp HT4 HNm
              go_wp2
              go_loopw [8] (fun i wr => ∃ k : Nat, k ≤ rn ∧ i = .int .i64 k ∧ Below w5.heap.size w5 wr ∧ Hid (∀ m (hm : m < R.length), m < k → insB (atT l R[m]) (atT l n) = true)) (fun i _ => rn - (intOf i).toNat)
              case atStart => exact ⟨0, by omega, rfl, Below.refl _ _, Lib.hid (fun m hm h0 => absurd h0 (by omega))⟩
              case round =>
                obtain ⟨k, hk, rfl, hb5, HJ⟩ := hrel
                have HB6 := Lib.hid (HB5.out.trans (hb5.mono HB5.out.size))
                have HB5r := Lib.hid hb5
                by_cases hkl : k < rn
                · have hkl' : (k : Int) < rn := by omega
                  have hkR : k < R.length := by rw [← HRn.out]; exact hkl
                  have HT6 := Lib.hid (HT5.out.later hb5)
                  obtain ⟨kb, ko, rfl, hkb, k0⟩ := (HN5.out.later hb5).cells (i := k) hkR
                  have HJn := Lib.hid (show insB (atT l R[k]) (atT l n) = false → rightB l = false from fun hf => (HNo.out (by
                    rw [HD4.out]
                    exact List.all_eq_false.2 ⟨R[k], List.getElem_mem _, by simp [hf]⟩)).symm)
                  have HJy := Lib.hid (show insB (atT l R[k]) (atT l n) = true → ∀ m (hm : m < R.length), m < k + 1 → insB (atT l R[m]) (atT l n) = true from fun ht m hm hmk => by
                    by_cases hmk2 : m = k
                    · subst hmk2; exact ht
                    · exact HJ.out m hm (by omega))
                  have hrl := HL2.out R[k] (List.getElem_mem _)
                  obtain ⟨r, hr⟩ : ∃ r, r = R[k] := ⟨_, rfl⟩
                  rw [← hr] at k0 HJn HJy hrl
                  obtain ⟨b', off', he, hbb, d0, d1, -⟩ := HT6.out.at'.span hrl
                  simp only [Option.some.injEq, Addr.mk.injEq, and_true] at he
                  obtain ⟨rfl, rfl⟩ := he
                  obtain ⟨b', off', he, hbb', e0, e1, -⟩ := HT6.out.at'.span hnL
                  simp only [Option.some.injEq, Addr.mk.injEq, and_true] at he
                  obtain ⟨rfl, rfl⟩ := he
                  obtain ⟨gf, hgf⟩ : ∃ x, x = (atT l r).fr := ⟨_, rfl⟩
                  obtain ⟨gt, hgt⟩ : ∃ x, x = (atT l r).to := ⟨_, rfl⟩
                  rw [← hgf] at d0
                  rw [← hgt] at d1
                  rw [← HFr.out] at e0
                  rw [← HTz.out] at e1
                  have HIn := Lib.hid (show ∀ u2, Below wr.heap.size wr u2 → Calls Tryz.prog 49 #[.agg #[.int .i64 gf, .int .i64 gt], .agg #[.int .i64 fr, .int .i64 tz]] u2 fun e w' => e = .returned (.bool (insB (atT l r) (atT l n))) ∧ Below wr.heap.size wr w' from fun u2 hu2 => (rIn_any gf gt fr tz u2).mono fun e w' hh => ⟨by rw [hh.1, hgf, hgt, HFr.out, HTz.out]; rfl, hu2.trans (hh.2.mono hu2.size)⟩)
                  have hrl' : (r : Int) < len := by rw [← HLe.out] at hrl; omega
                  obtain ⟨bo, hbo⟩ : ∃ bo, bo = insB (atT l r) (atT l n) := ⟨_, rfl⟩
                  rw [← hbo] at HIn HJn HJy
                  clear hb5 hr hgf hgt hbo hrl
                  go_upto_region 15 with (fail)
                  refine wp_region_held_drew (S := fun u2 => Below wr.heap.size wr u2) (by kernel_rfl) ((Below.refl wr.heap.size wr).drew) (fun hS => ?_)
                  refine wpAnyH_take (i := 0) (oi := ⟨_, _, _, _, _, _⟩) (v := ?v1) rfl (by kernel_rfl) (by kernel_rfl) (by kernel_rfl) (fun _ _ _ h => h) ?y1 hS ?_
                  case y1 => first | (refine Or.inr ⟨by rfl, ?_⟩; with_reducible rfl) | (refine Or.inl ⟨by rfl, ?_⟩; intro wS hSw; have s0 := cell_later hSw k0; have s1 := cell_later hSw d0; have s2 := cell_later hSw d1; have s3 := cell_later hSw e0; have s4 := cell_later hSw e1; go_simp; try with_reducible rfl)
                  simp only [Act.put, List.setIfInBounds_toArray, List.set_cons_zero, List.set_cons_succ]
                  refine wpAnyH_take (i := 1) (oi := ⟨_, _, _, _, _, _⟩) (v := ?v2) rfl (by kernel_rfl) (by kernel_rfl) (by kernel_rfl) (fun _ _ _ h => h) ?y2 hS ?_
                  case y2 => first | (refine Or.inr ⟨by rfl, ?_⟩; with_reducible rfl) | (refine Or.inl ⟨by rfl, ?_⟩; intro wS hSw; have s0 := cell_later hSw k0; have s1 := cell_later hSw d0; have s2 := cell_later hSw d1; have s3 := cell_later hSw e0; have s4 := cell_later hSw e1; go_simp; try with_reducible rfl)
                  simp only [Act.put, List.setIfInBounds_toArray, List.set_cons_zero, List.set_cons_succ]
                  refine wpAnyH_take (i := 2) (oi := ⟨_, _, _, _, _, _⟩) (v := ?v3) rfl (by kernel_rfl) (by kernel_rfl) (by kernel_rfl) (fun _ _ _ h => h) ?y3 hS ?_
                  case y3 => first | (refine Or.inr ⟨by rfl, ?_⟩; with_reducible rfl) | (refine Or.inl ⟨by rfl, ?_⟩; intro wS hSw; have s0 := cell_later hSw k0; have s1 := cell_later hSw d0; have s2 := cell_later hSw d1; have s3 := cell_later hSw e0; have s4 := cell_later hSw e1; go_simp; try with_reducible rfl)
                  simp only [Act.put, List.setIfInBounds_toArray, List.set_cons_zero, List.set_cons_succ]
                  refine wpAnyH_take (i := 3) (oi := ⟨_, _, _, _, _, _⟩) (v := ?v4) rfl (by kernel_rfl) (by kernel_rfl) (by kernel_rfl) (fun _ _ _ h => h) ?y4 hS ?_
                  case y4 => first | (refine Or.inr ⟨by rfl, ?_⟩; with_reducible rfl) | (refine Or.inl ⟨by rfl, ?_⟩; intro wS hSw; have s0 := cell_later hSw k0; have s1 := cell_later hSw d0; have s2 := cell_later hSw d1; have s3 := cell_later hSw e0; have s4 := cell_later hSw e1; go_simp; try with_reducible rfl)
                  simp only [Act.put, List.setIfInBounds_toArray, List.set_cons_zero, List.set_cons_succ]
                  refine wpAnyH_take (i := 4) (oi := ⟨_, _, _, _, _, _⟩) (v := ?v5) rfl (by kernel_rfl) (by kernel_rfl) (by kernel_rfl) (fun _ _ _ h => h) ?y5 hS ?_
                  case y5 => first | (refine Or.inr ⟨by rfl, ?_⟩; with_reducible rfl) | (refine Or.inl ⟨by rfl, ?_⟩; intro wS hSw; have s0 := cell_later hSw k0; have s1 := cell_later hSw d0; have s2 := cell_later hSw d1; have s3 := cell_later hSw e0; have s4 := cell_later hSw e1; go_simp; try with_reducible rfl)
                  simp only [Act.put, List.setIfInBounds_toArray, List.set_cons_zero, List.set_cons_succ]
                  refine wpAnyH_take (i := 5) (oi := ⟨_, _, _, _, _, _⟩) (v := ?v6) rfl (by kernel_rfl) (by kernel_rfl) (by kernel_rfl) (fun _ _ _ h => h) ?y6 hS ?_
                  case y6 => first | (refine Or.inr ⟨by rfl, ?_⟩; with_reducible rfl) | (refine Or.inl ⟨by rfl, ?_⟩; intro wS hSw; have s0 := cell_later hSw k0; have s1 := cell_later hSw d0; have s2 := cell_later hSw d1; have s3 := cell_later hSw e0; have s4 := cell_later hSw e1; go_simp; try with_reducible rfl)
                  simp only [Act.put, List.setIfInBounds_toArray, List.set_cons_zero, List.set_cons_succ]
                  refine wpAnyH_take (i := 6) (oi := ⟨_, _, _, _, _, _⟩) (v := ?v7) rfl (by kernel_rfl) (by kernel_rfl) (by kernel_rfl) (fun _ _ _ h => h) ?y7 hS ?_
                  case y7 => first | (refine Or.inr ⟨by rfl, ?_⟩; with_reducible rfl) | (refine Or.inl ⟨by rfl, ?_⟩; intro wS hSw; have s0 := cell_later hSw k0; have s1 := cell_later hSw d0; have s2 := cell_later hSw d1; have s3 := cell_later hSw e0; have s4 := cell_later hSw e1; go_simp; try with_reducible rfl)
                  simp only [Act.put, List.setIfInBounds_toArray, List.set_cons_zero, List.set_cons_succ]
                  refine wpAnyH_take (i := 7) (oi := ⟨_, _, _, _, _, _⟩) (v := ?v8) rfl (by kernel_rfl) (by kernel_rfl) (by kernel_rfl) (fun _ _ _ h => h) ?y8 hS ?_
                  case y8 => first | (refine Or.inr ⟨by rfl, ?_⟩; with_reducible rfl) | (refine Or.inl ⟨by rfl, ?_⟩; intro wS hSw; have s0 := cell_later hSw k0; have s1 := cell_later hSw d0; have s2 := cell_later hSw d1; have s3 := cell_later hSw e0; have s4 := cell_later hSw e1; go_simp; try with_reducible rfl)
                  simp only [Act.put, List.setIfInBounds_toArray, List.set_cons_zero, List.set_cons_succ]
                  refine wpAnyH_take (i := 8) (oi := ⟨_, _, _, _, _, _⟩) (v := ?v9) rfl (by kernel_rfl) (by kernel_rfl) (by kernel_rfl) (fun _ _ _ h => h) ?y9 hS ?_
                  case y9 => first | (refine Or.inr ⟨by rfl, ?_⟩; with_reducible rfl) | (refine Or.inl ⟨by rfl, ?_⟩; intro wS hSw; have s0 := cell_later hSw k0; have s1 := cell_later hSw d0; have s2 := cell_later hSw d1; have s3 := cell_later hSw e0; have s4 := cell_later hSw e1; go_simp; try with_reducible rfl)
                  simp only [Act.put, List.setIfInBounds_toArray, List.set_cons_zero, List.set_cons_succ]
                  refine wpAnyH_take (i := 9) (oi := ⟨_, _, _, _, _, _⟩) (v := ?v10) rfl (by kernel_rfl) (by kernel_rfl) (by kernel_rfl) (fun _ _ _ h => h) ?y10 hS ?_
                  case y10 => first | (refine Or.inr ⟨by rfl, ?_⟩; with_reducible rfl) | (refine Or.inl ⟨by rfl, ?_⟩; intro wS hSw; have s0 := cell_later hSw k0; have s1 := cell_later hSw d0; have s2 := cell_later hSw d1; have s3 := cell_later hSw e0; have s4 := cell_later hSw e1; go_simp; try with_reducible rfl)
                  simp only [Act.put, List.setIfInBounds_toArray, List.set_cons_zero, List.set_cons_succ]
                  refine wpAnyH_take (i := 10) (oi := ⟨_, _, _, _, _, _⟩) (v := ?v11) rfl (by kernel_rfl) (by kernel_rfl) (by kernel_rfl) (fun _ _ _ h => h) ?y11 hS ?_
                  case y11 => first | (refine Or.inr ⟨by rfl, ?_⟩; with_reducible rfl) | (refine Or.inl ⟨by rfl, ?_⟩; intro wS hSw; have s0 := cell_later hSw k0; have s1 := cell_later hSw d0; have s2 := cell_later hSw d1; have s3 := cell_later hSw e0; have s4 := cell_later hSw e1; go_simp; try with_reducible rfl)
                  simp only [Act.put, List.setIfInBounds_toArray, List.set_cons_zero, List.set_cons_succ]
                  refine wpAnyH_take (i := 11) (oi := ⟨_, _, _, _, _, _⟩) (v := ?v12) rfl (by kernel_rfl) (by kernel_rfl) (by kernel_rfl) (fun _ _ _ h => h) ?y12 hS ?_
                  case y12 => first | (refine Or.inr ⟨by rfl, ?_⟩; with_reducible rfl) | (refine Or.inl ⟨by rfl, ?_⟩; intro wS hSw; have s0 := cell_later hSw k0; have s1 := cell_later hSw d0; have s2 := cell_later hSw d1; have s3 := cell_later hSw e0; have s4 := cell_later hSw e1; go_simp; try with_reducible rfl)
                  simp only [Act.put, List.setIfInBounds_toArray, List.set_cons_zero, List.set_cons_succ]
                  refine wpAnyH_take (i := 12) (oi := ⟨_, _, _, _, _, _⟩) (v := ?v13) rfl (by kernel_rfl) (by kernel_rfl) (by kernel_rfl) (fun _ _ _ h => h) ?y13 hS ?_
                  case y13 => first | (refine Or.inr ⟨by rfl, ?_⟩; with_reducible rfl) | (refine Or.inl ⟨by rfl, ?_⟩; intro wS hSw; have s0 := cell_later hSw k0; have s1 := cell_later hSw d0; have s2 := cell_later hSw d1; have s3 := cell_later hSw e0; have s4 := cell_later hSw e1; go_simp; try with_reducible rfl)
                  simp only [Act.put, List.setIfInBounds_toArray, List.set_cons_zero, List.set_cons_succ]
                  refine wpAnyH_ready (rs := [13]) (by kernel_rfl) (by simp) ?_
                  refine AllReadyH.cons (o := ⟨_, _, _, _, _, _⟩) rfl (fun K hK => ?_) AllReadyH.nil
                  go_simp
                  refine (HIn.out _ hS).mono ?_
                  rintro e wx ⟨rfl, hS⟩
                  go_wp2_with fail
                  refine hK.out _ _ hS (fun _ => ?_)
                  clear hK K
                  try simp only [Act.put, List.setIfInBounds_toArray, List.set_cons_zero, List.set_cons_succ]
                  refine wpAnyH_take (i := 14) (oi := ⟨_, _, _, _, _, _⟩) (v := ?v14) rfl (by kernel_rfl) (by kernel_rfl) (by kernel_rfl) (fun _ _ _ h => h) ?y14 hS ?_
                  case y14 => first | (refine Or.inr ⟨by rfl, ?_⟩; with_reducible rfl) | (refine Or.inl ⟨by rfl, ?_⟩; intro wS hSw; have s0 := cell_later hSw k0; have s1 := cell_later hSw d0; have s2 := cell_later hSw d1; have s3 := cell_later hSw e0; have s4 := cell_later hSw e1; go_simp; try with_reducible rfl)
                  simp only [Act.put, List.setIfInBounds_toArray, List.set_cons_zero, List.set_cons_succ]
                  refine wpAnyH_done (by kernel_rfl) ?_ _
                  have HB7 := Lib.hid (HB6.out.trans (hS.mono HB6.out.size))
                  have HB8 := Lib.hid (HB5r.out.trans (hS.mono HB5r.out.size))
                  clear hS k0 d0 d1 e0 e1 HIn
                  cases bo with
                  | false =>
                    go_wp2
                    go_ret
                    exact ⟨ret_bool (HJn.out (by simp)).symm, HB7.out⟩
                  | true =>
                    go_wp2
                    go_roundw
                    case rel => exact ⟨k + 1, by omega, by go_num, HB8.out, Lib.hid (HJy.out (by simp))⟩
                    case measure => simp [intOf]; omega
                · have hkl' : ¬ (k : Int) < rn := by omega
                  have HY := Lib.hid (show refOk l n = true from by
                    rw [HD4.out, List.all_eq_true]
                    intro x hx
                    obtain ⟨m, hm, rfl⟩ := List.getElem_of_mem hx
                    exact HJ.out m hm (by have := HRn.out; omega))
                  clear hb5
                  go_wp2
                  go_roundw
                  case rel => exact ⟨n + 1, by omega, by go_num, HB6.out, Lib.hid (fun m hm => by
                    by_cases hmn : m = n
                    · subst hmn; exact HY.out
                    · exact HI.out m (by omega))⟩
                  case measure => simp [intOf]; omega
        · have hlt' : ¬ (n : Int) < len := by omega
          have HF := Lib.hid (show rightB l = true from by rw [← HRf.out]; exact refR_yes HT.out HA.out (fun m hm => HI.out m (by have := HLe.out; omega)))
          go_wp2
          go_ret
          exact ⟨ret_bool HF.out.symm, hbel⟩
set_option maxHeartbeats 1000000 in
theorem rTop_any (v : Value) (l : List Tw) (w : World) (h : TwRow w v l) :
    Calls Tryz.prog 16 #[v] w fun e w' => Told w (topR l) e w' := by
  have HR := Lib.hid (rRight_any v l w h)
  have H := Lib.hid h
  obtain ⟨ao, cap, rfl⟩ := h.at'.val
  obtain ⟨len, hlen⟩ : ∃ len, len = l.length := ⟨_, rfl⟩
  have HLe := Lib.hid hlen
  rw [← hlen] at H HR ⊢
  clear h
  cases hr : rightB l with
  | false =>
    rw [hr] at HR
    have HT := Lib.hid (show topR l = [] from by unfold topR; rw [hr]; rfl)
    clear hr hlen
    go_enter Tryz.func16, Tryz.ntmps16
    go_wp2_with fail
    refine HR.out.mono ?_
    rintro e w1 ⟨rfl, hb⟩
    go_wp2
    go_ret
    refine ⟨_, rfl, ?_, hb⟩
    rw [HT.out]
    exact World.ownsRow_nil _ _ _ _
  | true =>
    rw [hr] at HR
    have HT := Lib.hid (show topR l = (rootsL l l.length 0).getD [] from by unfold topR; rw [if_pos hr])
    clear hr hlen
    go_enter Tryz.func16, Tryz.ntmps16
    go_wp2_with fail
    refine HR.out.mono ?_
    rintro e w1 ⟨rfl, hb⟩
    have HB1 := Lib.hid hb
    have HRo := Lib.hid (rRoots_any H.out.len _ _ (H.out.later hb).at')
    clear hb
    go_wp2_with fail
    refine HRo.out.mono ?_
    rintro e w2 ⟨v', rfl, ho, hb⟩
    rw [← HT.out] at ho
    have ho2 := ho.lift HB1.out.size
    have HO := Lib.hid ho2
    have HB2 := Lib.hid (HB1.out.trans (hb.mono HB1.out.size))
    unfold OwnN at ho
    obtain ⟨va, vc, rfl⟩ := own_val ho
    clear ho ho2 hb
    go_wp2
    go_ret
    exact ⟨_, rfl, HO.out, HB2.out⟩
end Go.Proofs.YtadkjjpopmiceaaGreat
