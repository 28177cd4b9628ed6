import Derived.Test.YtadkjjpopmiceaaGreatDbtm
namespace Go.Proofs.YtadkjjpopmiceaaGreat
open Go.RowKit Go.Lib

theorem own_some5 {B : Nat} {w : World} {a : Option Addr} {n p : Nat} {l : List Value} (h : w.ownsRow B 45 5 (.slice a n p) n l) (hn : 0 < n) : ∃ g, a = some ⟨g, 0, none⟩ := by
  rcases own_at h with ⟨-, h1, -⟩ | h1
  · omega
  · exact h1
set_option maxRecDepth 100000 in
set_option maxHeartbeats 8000000 in
theorem same_any {B B' b x rb : Nat} {v vr : Value} {l : List Tw} {most peak : Nat} (mark : Int) (w : World) (h : BuI B w b x v l most peak) (hd : DoB B' w rb vr l most peak) :
    Calls Tryz.prog 70 #[.pointer (some ⟨b, 0, none⟩), .pointer (some ⟨rb, 0, none⟩), .int .i64 mark] w fun e w' => e = .returned (.bool true) ∧ Below w.heap.size w w' := by
  have H := Lib.hid h
  have HD := Lib.hid hd
  have hown := hd.own
  unfold TwOwn at hown
  obtain ⟨va, vc, rfl⟩ := own_val hown
  obtain ⟨len, hlen⟩ : ∃ len, len = l.length := ⟨_, rfl⟩
  have HLe := Lib.hid hlen
  have hl5 : len ≤ 100000 := by rw [hlen]; exact h.len
  rw [← hlen] at HD hown
  have hor := own_at hown
  have hcap := own_cap hown
  have HMk := Lib.hid (show ∀ u2, Below w.heap.size w u2 → Calls Tryz.prog 36 #[.pointer (some ⟨b, 0, none⟩)] u2 fun e w' => e = .returned (.int .i64 (len : Int)) ∧ Below w.heap.size w w' from fun u2 hu => (buMark u2 (H.out.later hu)).mono fun e w' hh => ⟨by rw [hh.1, HLe.out], hh.2 ▸ hu⟩)
  have HPk := Lib.hid (show ∀ u2, Below w.heap.size w u2 → Calls Tryz.prog 71 #[.pointer (some ⟨b, 0, none⟩)] u2 fun e w' => e = .returned (.int .i64 (peak : Int)) ∧ Below w.heap.size w w' from fun u2 hu => (buPeak u2 (H.out.later hu)).mono fun e w' hh => ⟨hh.1, hh.2 ▸ hu⟩)
  obtain ⟨c0, c1, c2⟩ := three_box HD.out.blk
  obtain ⟨hcap1, hcap2⟩ := hcap
  unfold maxLen at hcap2
  clear h hd hown hlen
  go_enter Tryz.func70, Tryz.ntmps70
  go_upto_region 1 with (fail)
  refine wp_region_held_drew (S := fun u2 => Below w.heap.size w u2) (by kernel_rfl) ((Below.refl w.heap.size w).drew) (fun hS => ?_)
  refine wpAnyH_take (i := 0) (oi := ⟨_, _, _, _, _, _⟩) (v := ?v1) rfl (by kernel_rfl) (by kernel_rfl) (by kernel_rfl) (fun _ _ _ h => h) ?y1 hS ?_
  case y1 => first | (refine Or.inr ⟨by rfl, ?_⟩; with_reducible rfl) | (refine Or.inl ⟨by rfl, ?_⟩; intro wS hSw; have z0 := cell_later hSw c0; have z2 := cell_later hSw c2; go_simp; try with_reducible rfl)
  simp only [Act.put, List.setIfInBounds_toArray, List.set_cons_zero, List.set_cons_succ]
  refine wpAnyH_take (i := 2) (oi := ⟨_, _, _, _, _, _⟩) (v := ?v2) rfl (by kernel_rfl) (by kernel_rfl) (by kernel_rfl) (fun _ _ _ h => h) ?y2 hS ?_
  case y2 => first | (refine Or.inr ⟨by rfl, ?_⟩; with_reducible rfl) | (refine Or.inl ⟨by rfl, ?_⟩; intro wS hSw; have z0 := cell_later hSw c0; have z2 := cell_later hSw c2; go_simp; try with_reducible rfl)
  simp only [Act.put, List.setIfInBounds_toArray, List.set_cons_zero, List.set_cons_succ]
  refine wpAnyH_take (i := 3) (oi := ⟨_, _, _, _, _, _⟩) (v := ?v3) rfl (by kernel_rfl) (by kernel_rfl) (by kernel_rfl) (fun _ _ _ h => h) ?y3 hS ?_
  case y3 => first | (refine Or.inr ⟨by rfl, ?_⟩; with_reducible rfl) | (refine Or.inl ⟨by rfl, ?_⟩; intro wS hSw; have z0 := cell_later hSw c0; have z2 := cell_later hSw c2; go_simp; try with_reducible rfl)
  simp only [Act.put, List.setIfInBounds_toArray, List.set_cons_zero, List.set_cons_succ]
  refine wpAnyH_take (i := 4) (oi := ⟨_, _, _, _, _, _⟩) (v := ?v4) rfl (by kernel_rfl) (by kernel_rfl) (by kernel_rfl) (fun _ _ _ h => h) ?y4 hS ?_
  case y4 => first | (refine Or.inr ⟨by rfl, ?_⟩; with_reducible rfl) | (refine Or.inl ⟨by rfl, ?_⟩; intro wS hSw; have z0 := cell_later hSw c0; have z2 := cell_later hSw c2; go_simp; try with_reducible rfl)
  simp only [Act.put, List.setIfInBounds_toArray, List.set_cons_zero, List.set_cons_succ]
  refine wpAnyH_take (i := 5) (oi := ⟨_, _, _, _, _, _⟩) (v := ?v5) rfl (by kernel_rfl) (by kernel_rfl) (by kernel_rfl) (fun _ _ _ h => h) ?y5 hS ?_
  case y5 => first | (refine Or.inr ⟨by rfl, ?_⟩; with_reducible rfl) | (refine Or.inl ⟨by rfl, ?_⟩; intro wS hSw; have z0 := cell_later hSw c0; have z2 := cell_later hSw c2; go_simp; try with_reducible rfl)
  simp only [Act.put, List.setIfInBounds_toArray, List.set_cons_zero, List.set_cons_succ]
  refine wpAnyH_take (i := 6) (oi := ⟨_, _, _, _, _, _⟩) (v := ?v6) rfl (by kernel_rfl) (by kernel_rfl) (by kernel_rfl) (fun _ _ _ h => h) ?y6 hS ?_
  case y6 => first | (refine Or.inr ⟨by rfl, ?_⟩; with_reducible rfl) | (refine Or.inl ⟨by rfl, ?_⟩; intro wS hSw; have z0 := cell_later hSw c0; have z2 := cell_later hSw c2; go_simp; try with_reducible rfl)
  simp only [Act.put, List.setIfInBounds_toArray, List.set_cons_zero, List.set_cons_succ]
  refine wpAnyH_ready (rs := [1]) (by kernel_rfl) (by simp) ?_
  refine AllReadyH.cons (o := ⟨_, _, _, _, _, _⟩) rfl (fun K hK => ?_) AllReadyH.nil
  go_simp
  refine (HMk.out _ hS).mono ?_
  rintro e wx ⟨rfl, hS⟩
  go_wp2_with fail
  refine hK.out _ _ hS (fun _ => ?_)
  clear hK K
  try simp only [Act.put, List.setIfInBounds_toArray, List.set_cons_zero, List.set_cons_succ]
  refine wpAnyH_take (i := 7) (oi := ⟨_, _, _, _, _, _⟩) (v := ?v7) rfl (by kernel_rfl) (by kernel_rfl) (by kernel_rfl) (fun _ _ _ h => h) ?y7 hS ?_
  case y7 => first | (refine Or.inr ⟨by rfl, ?_⟩; with_reducible rfl) | (refine Or.inl ⟨by rfl, ?_⟩; intro wS hSw; have z0 := cell_later hSw c0; have z2 := cell_later hSw c2; go_simp; try with_reducible rfl)
  simp only [Act.put, List.setIfInBounds_toArray, List.set_cons_zero, List.set_cons_succ]
  refine wpAnyH_take (i := 8) (oi := ⟨_, _, _, _, _, _⟩) (v := ?v8) rfl (by kernel_rfl) (by kernel_rfl) (by kernel_rfl) (fun _ _ _ h => h) ?y8 hS ?_
  case y8 => first | (refine Or.inr ⟨by rfl, ?_⟩; with_reducible rfl) | (refine Or.inl ⟨by rfl, ?_⟩; intro wS hSw; have z0 := cell_later hSw c0; have z2 := cell_later hSw c2; go_simp; try with_reducible rfl)
  simp only [Act.put, List.setIfInBounds_toArray, List.set_cons_zero, List.set_cons_succ]
  refine wpAnyH_take (i := 9) (oi := ⟨_, _, _, _, _, _⟩) (v := ?v9) rfl (by kernel_rfl) (by kernel_rfl) (by kernel_rfl) (fun _ _ _ h => h) ?y9 hS ?_
  case y9 => first | (refine Or.inr ⟨by rfl, ?_⟩; with_reducible rfl) | (refine Or.inl ⟨by rfl, ?_⟩; intro wS hSw; have z0 := cell_later hSw c0; have z2 := cell_later hSw c2; go_simp; try with_reducible rfl)
  simp only [Act.put, List.setIfInBounds_toArray, List.set_cons_zero, List.set_cons_succ]
  refine wpAnyH_take (i := 11) (oi := ⟨_, _, _, _, _, _⟩) (v := ?v10) rfl (by kernel_rfl) (by kernel_rfl) (by kernel_rfl) (fun _ _ _ h => h) ?y10 hS ?_
  case y10 => first | (refine Or.inr ⟨by rfl, ?_⟩; with_reducible rfl) | (refine Or.inl ⟨by rfl, ?_⟩; intro wS hSw; have z0 := cell_later hSw c0; have z2 := cell_later hSw c2; go_simp; try with_reducible rfl)
  simp only [Act.put, List.setIfInBounds_toArray, List.set_cons_zero, List.set_cons_succ]
  refine wpAnyH_take (i := 12) (oi := ⟨_, _, _, _, _, _⟩) (v := ?v11) rfl (by kernel_rfl) (by kernel_rfl) (by kernel_rfl) (fun _ _ _ h => h) ?y11 hS ?_
  case y11 => first | (refine Or.inr ⟨by rfl, ?_⟩; with_reducible rfl) | (refine Or.inl ⟨by rfl, ?_⟩; intro wS hSw; have z0 := cell_later hSw c0; have z2 := cell_later hSw c2; go_simp; try with_reducible rfl)
  simp only [Act.put, List.setIfInBounds_toArray, List.set_cons_zero, List.set_cons_succ]
  refine wpAnyH_take (i := 13) (oi := ⟨_, _, _, _, _, _⟩) (v := ?v12) rfl (by kernel_rfl) (by kernel_rfl) (by kernel_rfl) (fun _ _ _ h => h) ?y12 hS ?_
  case y12 => first | (refine Or.inr ⟨by rfl, ?_⟩; with_reducible rfl) | (refine Or.inl ⟨by rfl, ?_⟩; intro wS hSw; have z0 := cell_later hSw c0; have z2 := cell_later hSw c2; go_simp; try with_reducible rfl)
  simp only [Act.put, List.setIfInBounds_toArray, List.set_cons_zero, List.set_cons_succ]
  refine wpAnyH_take (i := 14) (oi := ⟨_, _, _, _, _, _⟩) (v := ?v13) rfl (by kernel_rfl) (by kernel_rfl) (by kernel_rfl) (fun _ _ _ h => h) ?y13 hS ?_
  case y13 => first | (refine Or.inr ⟨by rfl, ?_⟩; with_reducible rfl) | (refine Or.inl ⟨by rfl, ?_⟩; intro wS hSw; have z0 := cell_later hSw c0; have z2 := cell_later hSw c2; go_simp; try with_reducible rfl)
  simp only [Act.put, List.setIfInBounds_toArray, List.set_cons_zero, List.set_cons_succ]
  refine wpAnyH_ready (rs := [10]) (by kernel_rfl) (by simp) ?_
  refine AllReadyH.cons (o := ⟨_, _, _, _, _, _⟩) rfl (fun K hK => ?_) AllReadyH.nil
  go_simp
  refine (HPk.out _ hS).mono ?_
  rintro e wx ⟨rfl, hS⟩
  go_wp2_with fail
  refine hK.out _ _ hS (fun _ => ?_)
  clear hK K
  try simp only [Act.put, List.setIfInBounds_toArray, List.set_cons_zero, List.set_cons_succ]
  refine wpAnyH_take (i := 15) (oi := ⟨_, _, _, _, _, _⟩) (v := ?v14) rfl (by kernel_rfl) (by kernel_rfl) (by kernel_rfl) (fun _ _ _ h => h) ?y14 hS ?_
  case y14 => first | (refine Or.inr ⟨by rfl, ?_⟩; with_reducible rfl) | (refine Or.inl ⟨by rfl, ?_⟩; intro wS hSw; have z0 := cell_later hSw c0; have z2 := cell_later hSw c2; go_simp; try with_reducible rfl)
  simp only [Act.put, List.setIfInBounds_toArray, List.set_cons_zero, List.set_cons_succ]
  refine wpAnyH_take (i := 16) (oi := ⟨_, _, _, _, _, _⟩) (v := ?v15) rfl (by kernel_rfl) (by kernel_rfl) (by kernel_rfl) (fun _ _ _ h => h) ?y15 hS ?_
  case y15 => first | (refine Or.inr ⟨by rfl, ?_⟩; with_reducible rfl) | (refine Or.inl ⟨by rfl, ?_⟩; intro wS hSw; have z0 := cell_later hSw c0; have z2 := cell_later hSw c2; go_simp; try with_reducible rfl)
  simp only [Act.put, List.setIfInBounds_toArray, List.set_cons_zero, List.set_cons_succ]
  refine wpAnyH_done (by kernel_rfl) ?_ _
  have HBx := Lib.hid hS
  clear hS c0 c1 c2
  go_wp2
  go_loopw [7] (fun i wr => ∃ j : Nat, i = .int .i64 ((j : Int) - 1) ∧ j ≤ len + 4 ∧ Below w.heap.size w wr) (fun i _ => len + 10 - (intOf i + 1).toNat)
  case atStart => exact ⟨0, by go_num, by omega, HBx.out⟩
  case round =>
    obtain ⟨j, rfl, hj, hbel⟩ := hrel
    have HBr := Lib.hid hbel
    have HDr := Lib.hid (HD.out.later hbel)
    have HHr := Lib.hid (H.out.later hbel)
    have c0 := (three_box HDr.out.blk).1
    obtain ⟨kk, hkk⟩ : ∃ kk : Int, kk = (j : Int) - 1 := ⟨_, rfl⟩
    rw [← hkk]
    have HK := Lib.hid hkk
    have hk1 : kk ≤ 100010 := by omega
    have hk0 : -1 ≤ kk := by omega
    clear hbel hkk
    by_cases hlt : kk < (len : Int) + 3
    · go_upto_region 6 with (fail)
      go_upto_if 47 with (fail)
      go_cut [8] (fun y w1 => ∃ m : Int, y = .int .i64 m ∧ wr = w1)
      case first =>
        by_cases hgt : (len : Int) + 1 < kk
        · go_wp2
          go_meet
          exact ⟨mark, rfl, rfl⟩
        · go_wp2
          go_meet
          exact ⟨kk, rfl, rfl⟩
      case rest =>
        obtain ⟨m, rfl, rfl⟩ := hcut
        clear c0
        go_wp2_with fail
        refine (buSince m _ HHr.out).mono ?_
        rintro e w2 ⟨vs, rfl, ho, hb⟩
        have HB2 := Lib.hid (HBr.out.trans (hb.mono HBr.out.size))
        have HD2 := Lib.hid (HD.out.later HB2.out)
        have HM2 := Lib.hid (rMark_any m w2 HD2.out)
        have HSz := Lib.hid hb.size
        cases hm : isMark l m with
        | false =>
          rw [hm] at HM2 ho
          simp only [hm] at ho ⊢
          have hv := ho
          unfold TwOwn at hv
          obtain ⟨sa, sc, rfl⟩ := own_val hv
          clear hm hb ho hv
          go_wp2_with fail
          refine HM2.out.mono ?_
          rintro e w3 ⟨rfl, hb⟩
          have HB3 := Lib.hid (HB2.out.trans (hb.mono HB2.out.size))
          clear hb
          go_wp2
          go_roundw
          case rel => exact ⟨j + 1, by rw [HK.out]; go_num, by have := HK.out; omega, HB3.out⟩
          case measure => have := HK.out; simp [intOf]; omega
        | true =>
          obtain ⟨mm, rfl, hml⟩ := mark_le hm HHr.out.right
          rw [hm] at HM2 ho
          simp only [hm] at ho ⊢
          have hv := ho
          unfold TwOwn at hv
          have hld : (l.drop mm).length = len - mm := by rw [List.length_drop, ← HLe.out]
          simp only [if_true, Int.toNat_natCast] at hv ho
          rw [hld] at hv
          obtain ⟨sa, sc, rfl⟩ := own_val hv
          rw [← HLe.out] at hml
          have HV := Lib.hid hv
          clear hm hb ho hv
          go_wp2_with fail
          refine HM2.out.mono ?_
          rintro e w3 ⟨rfl, hb⟩
          have HB3 := Lib.hid (HB2.out.trans (hb.mono HB2.out.size))
          have HD3 := Lib.hid (HD.out.later HB3.out)
          have HV3 := Lib.hid ((Keeps.ofNew hb (fun _ => False)).row HV.out (fun _ _ h => h))
          have c0 := (three_box HD3.out.blk).1
          have HLd := Lib.hid hld
          have HSz3 := Lib.hid (Nat.le_trans HSz.out hb.size)
          clear hb hld
          obtain ⟨n, hn⟩ : ∃ n, n = len - mm := ⟨_, rfl⟩
          have HNn := Lib.hid hn
          rw [← hn] at HLd HV3 ⊢
          have hn5 : n ≤ 100000 := by omega
          have HTv := Lib.hid (show TwAt w3 (.slice sa n sc) (l.drop mm) from TwOwn.tw (B := _) (by unfold TwOwn; rw [HLd.out]; exact HV3.out))
          clear hn HV
          go_upto_region 13 with (fail)
          go_cut [78] (fun y w4 => y = .bool false ∧ Below w3.heap.size w3 w4)
          case first =>
            have hdo := HD3.out.own
            unfold TwOwn at hdo
            rw [← HLe.out] at hdo
            have HDo := Lib.hid hdo
            clear hdo
            rcases hor with ⟨rfl, rfl, rfl⟩ | ⟨g, rfl⟩
            · obtain rfl : mm = 0 := by omega
              have HT2 := Lib.hid (show TwAt w3 (.slice none 0 0) (l.drop 0) from by rw [show l.drop 0 = [] from by rw [List.drop_zero]; exact List.eq_nil_of_length_eq_zero HLe.out.symm]; exact TwAt.nil w3)
              go_wp2_with fail
              refine (sameTwigs_any _ _ (l.drop 0) w3 HTv.out HT2.out).mono ?_
              rintro e w4 ⟨rfl, hb⟩
              go_wp2
              go_meet
              exact ⟨rfl, hb⟩
            · have hml4 : (mm : Int) ≤ vc := by omega
              have hml5 : (mm : Int) ≤ len := by omega
              by_cases hmc : mm = vc
              · have hmn : mm = len := by omega
                have HT2 := Lib.hid (show TwAt w3 (.slice (some ⟨g, 0, none⟩) (len - mm) 0) (l.drop mm) from by
                  rw [hmn, Nat.sub_self, List.drop_eq_nil_of_le (by rw [← HLe.out]; exact Nat.le_refl _)]
                  exact tw_empty w3 0 (Nat.zero_le _) g 0 (HDo.out.lt g rfl).2)
                subst hmc
                subst hmn
                rw [Nat.sub_self] at HT2
                go_wp2_with fail
                refine (sameTwigs_any _ _ (l.drop mm) w3 HTv.out HT2.out).mono ?_
                rintro e w4 ⟨rfl, hb⟩
                go_wp2
                go_meet
                exact ⟨rfl, hb⟩
              · have HT2 := Lib.hid (show TwAt w3 (.slice (some ⟨g, mm * 5, none⟩) (len - mm) (vc - mm)) (l.drop mm) from by
                  have := own_part HDo.out mm len (mm * 5) (vc - mm) hml (Nat.le_refl _) (.inr rfl) ⟨by omega, by unfold maxLen; omega⟩
                  rwa [List.take_of_length_le (by rw [← HLe.out]; exact Nat.le_refl _)] at this)
                go_wp2_with fail
                refine (sameTwigs_any _ _ (l.drop mm) w3 HTv.out HT2.out).mono ?_
                rintro e w4 ⟨rfl, hb⟩
                go_wp2
                go_meet
                exact ⟨rfl, hb⟩
          case rest =>
            obtain ⟨rfl, hb⟩ := hcut
            have HB4 := Lib.hid (HB3.out.trans (hb.mono HB3.out.size))
            have HV4 := Lib.hid ((Keeps.ofNew hb (fun _ => False)).row HV3.out (fun _ _ h => h))
            obtain ⟨Bz, hBz⟩ : ∃ Bz, Bz = wr.heap.size := ⟨_, rfl⟩
            rw [← hBz] at HV4
            have HBz := Lib.hid (show w.heap.size ≤ Bz from by rw [hBz]; exact HBr.out.size)
            clear hb c0 hBz HTv
            go_wp2
            go_loopw [11] (fun i wr => ∃ (k : Nat) (L2 : List Tw), k ≤ n ∧ i = .int .i64 k ∧ Hid (wr.ownsRow Bz 45 5 (.slice sa n sc) n (tvs L2)) ∧ L2.length = n ∧ Below w.heap.size w wr) (fun i _ => n - (intOf i).toNat)
            case atStart => exact ⟨0, l.drop mm, by omega, rfl, HV4, HLd.out, HB4.out⟩
            case round =>
              obtain ⟨k, L2, hk, rfl, HO, hL2, hbel⟩ := hrel
              have HB5 := Lib.hid hbel
              clear hbel
              by_cases hlt2 : k < n
              · have hlt2' : (k : Int) < n := by omega
                obtain ⟨g, rfl⟩ := own_some5 HO.out (by omega)
                have hkL : k < L2.length := by omega
                obtain ⟨e4, f4⟩ := own_cellC twc_len HO.out k hkL 4 (by omega)
                have HS4 := Lib.hid (own_setC twc_len HO.out k hkL 4 (by omega) ⟨L2[k].rule, L2[k].lev, L2[k].fr, L2[k].to, 7⟩ (.int .i64 7) rfl)
                have hgl := HO.out.lt g rfl
                have HBs := Lib.hid (HB5.out.setCell (p := ⟨g, k * 5 + 4, none⟩) (Nat.le_trans HBz.out hgl.1) (.int .i64 7))
                have HL2 := Lib.hid hL2
                clear hgl hL2
                go_wp2
                go_roundw
                case rel => exact ⟨k + 1, _, by omega, by go_num, HS4, by have := HL2.out; simp; omega, HBs.out⟩
                case measure => simp [intOf]; omega
              · have hlt2' : ¬ (k : Int) < n := by omega
                go_wp2
                go_roundw
                case rel => exact ⟨j + 1, by rw [HK.out]; go_num, by have := HK.out; omega, HB5.out⟩
                case measure => have := HK.out; simp [intOf]; omega
    · go_wp2
      go_ret
      exact ⟨rfl, HBr.out⟩
end Go.Proofs.YtadkjjpopmiceaaGreat
