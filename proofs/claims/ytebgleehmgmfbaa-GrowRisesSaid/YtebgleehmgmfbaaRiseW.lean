/-
  Chapter 26: the walk of GrowRises.
-/
import Derived.Test.YtebgleehmgmfbaaBackW
namespace Go.Proofs.Ytebgleehmgmfbaa
open Go.RowKit Go.Lib

/-- ends that rise from 0 on. -/
theorem ends_up {l : List An} {T : Nat} (hT : Stops l T) (h0 : 0 < T → 0 ≤ (atA l 0).en) : ∀ j, j < T → (j : Int) ≤ (atA l j).en := by
  intro j
  induction j with
  | zero => intro h; simpa using h0 h
  | succ j ih =>
    intro h
    have h1 := ih (by omega)
    rcases (hT.1 (j + 1) h).2.2 with h2 | h2
    · omega
    · simp only [Nat.add_sub_cancel] at h2
      omega

set_option maxRecDepth 100000 in
set_option maxHeartbeats 4000000 in
theorem growRises_main (av : Value) {p : Pr} {lev nn : Int} {l : List An} (w : World) (hw : W64 p) (ha : AnsAt w av l) (hzm : l.length ≤ 140737488355328) (hbt : ∀ k, (atA l k).tree.length ≤ 140737488355328) :
    Calls Try.prog 5 #[.agg #[.int .i64 p.1, .int .i64 p.2], .int .i64 lev, .int .i64 nn, av] w fun e w' => e = .returned (.bool true) ∧ Below w.heap.size w w' := by
  obtain ⟨T, hTl, hT⟩ := stops_some l
  have HT := Lib.hid hT
  have HTl := Lib.hid hTl
  clear hT hTl
  have HW := Lib.hid hw
  have HA := Lib.hid ha
  have HZ := Lib.hid (fun (wq : World) (hb : Below w.heap.size w wq) => size_any (L := []) av (.slice none 0 0) wq (ha.later hb) ⟨none, 0, 0, 0, rfl, Nat.le_refl _, by unfold maxLen; omega, fun _ => ⟨rfl, rfl⟩, fun h => by simp at h, fun e he => by simp at he, fun i hi => by simp at hi⟩ hzm (by simp) hbt)
  obtain ⟨aao, acap, rfl⟩ := ha.val
  obtain ⟨z, hz⟩ : ∃ z, z = l.length := ⟨_, rfl⟩
  have Hz := Lib.hid hz
  rw [← hz] at HA HZ ⊢
  clear hw ha hzm hbt hz
  go_enter Try.func5, Try.ntmps5
  go_upto_region 1 with (fail)
  obtain ⟨hb1, hx1⟩ := one_new w (.cells #[.int .i64 p.1, .int .i64 p.2] 24 (0, 0))
  refine gen_world (S := fun u => Below w.heap.size w u ∧ u.heap[w.heap.size]? = some (.cells #[.int .i64 p.1, .int .i64 p.2] 24 (0, 0))) ⟨hb1, hx1⟩ (fun u hu => ?_)
  obtain ⟨B, hB⟩ : ∃ B, B = w.heap.size := ⟨_, rfl⟩
  rw [← hB] at hu hx1 ⊢
  obtain ⟨hb, hx⟩ := hu
  rw [hB] at hb
  have Hb := Lib.hid hb
  have HX := Lib.hid hx
  have HB := Lib.hid hB
  clear hb1 hx1 hb hx hB
  go_wp2_with fail
  refine (awake_any u).mono ?_
  rintro e w1 ⟨rfl, hba⟩
  have HXa := Lib.hid ((hba.block _ (lt_of_block HX.out)).trans HX.out)
  have Hba := Lib.hid (Hb.out.trans (hba.mono Hb.out.size))
  clear hba HX Hb
  go_wp2_with fail
  refine (HZ.out w1 Hba.out).mono ?_
  rintro e w2 ⟨n, rfl, hn, hb2⟩
  have Hn := Lib.hid hn
  have HX2 := Lib.hid ((hb2.block _ (lt_of_block HXa.out)).trans HXa.out)
  have HB2 := Lib.hid (Hba.out.trans (hb2.mono Hba.out.size))
  clear hn hb2 HXa Hba HZ
  by_cases h200 : n ≤ 200
  · have hg : decide (200 < n) = false := by simpa using h200
    have hg2 : ¬ 200 < n := by omega
    obtain ⟨hl, -, ht⟩ := Hn.out h200
    have Hl := Lib.hid (show z ≤ 200 from hl)
    have Ht := Lib.hid ht
    clear h200 hl ht
    by_cases hn0 : nn < 0
    · have hg3 : decide (nn < 0) = true := by simpa using hn0
      clear hn0
      go_wp2
      go_ret
      exact ⟨rfl, HB2.out⟩
    · have hg3 : decide (nn < 0) = false := by simp; omega
      by_cases hn1 : 200 < nn
      · have hg4 : decide (200 < nn) = true := by simpa using hn1
        clear hn1
        go_wp2
        go_ret
        exact ⟨rfl, HB2.out⟩
      · have hg4 : decide (200 < nn) = false := by simp; omega
        have Hn0 := Lib.hid (show 0 ≤ nn ∧ nn ≤ 200 from ⟨by omega, by omega⟩)
        go_wp2_with fail
        go_loopw [9] (fun v9 wr => ∃ i : Nat, i ≤ z ∧ v9 = .int .i64 i ∧ (∀ j, j < i → (atA l j).err = 0) ∧ w2 = wr) (fun i _ => z - (intOf i).toNat)
        case atStart => exact ⟨0, Nat.zero_le _, rfl, fun j hj => by omega, rfl⟩
        case round =>
          obtain ⟨i, hi, rfl, hz0, rfl⟩ := hrel
          have Hz0 := Lib.hid hz0
          clear hz0
          by_cases hlt : i < z
          · have hlt' : (i : Int) < z := by omega
            have hw9 : IntKind.i64.wrap ((i : Int) + 1) = (i : Int) + 1 := IntWalk.i64_in _ (by have := Hl.out; omega)
            have hig : i < l.length := by rw [← Hz.out]; exact hlt
            obtain ⟨ab, af, rfl, hbl, -, -, -, -, a4⟩ := (HA.out.later HB2.out).cells.2.2.2.2 i hig
            rw [← atA_lt hig] at a4
            have Hlt := Lib.hid hlt
            clear hig hbl hlt hi
            by_cases he : (atA l i).err = 0
            · have qe : ((atA l i).err == 0) = true := by rw [he]; rfl
              have qe2 : decide ((atA l i).err = 0) = true := by rw [he]; rfl
              have qe3 : ((atA l i).err != 0) = false := by rw [he]; rfl
              have He := Lib.hid he
              clear he
              go_wp2_with fail
              go_roundw
              case rel => exact ⟨i + 1, Hlt.out, by go_num, fun j hj => by
                by_cases hj2 : j < i
                · exact Hz0.out j hj2
                · obtain rfl : j = i := by omega
                  exact He.out, by simp⟩
              case measure => have := Hlt.out; simp [intOf]; omega
            · have qe : ((atA l i).err == 0) = false := by simpa using he
              have qe2 : decide ((atA l i).err = 0) = false := by simpa using he
              have qe3 : ((atA l i).err != 0) = true := by simpa using he
              clear he
              go_wp2
              go_ret
              exact ⟨rfl, HB2.out⟩
          · have hlt' : ¬ (i : Int) < z := by omega
            have hTe : (atA l T).err = 0 := by
              by_cases h : T < l.length
              · exact Hz0.out T (by have := Hz.out; omega)
              · rw [atA_ge h]; rfl
            have HTe := Lib.hid hTe
            clear hTe hlt hi Hz0
            go_wp2_with fail
            refine (st_new w2 w2.heap.size (Nat.le_refl _)).mono ?_
            rintro e w3 ⟨rfl, hst, hb3⟩
            have HX3 := Lib.hid ((hb3.block _ (lt_of_block HX2.out)).trans HX2.out)
            have HB3 := Lib.hid (HB2.out.trans (hb3.mono HB2.out.size))
            have HSt := Lib.hid hst
            obtain ⟨b2, hb2e⟩ : ∃ b2, b2 = w2.heap.size := ⟨_, rfl⟩
            rw [← hb2e] at HSt ⊢
            have Hb2 := Lib.hid (show w.heap.size ≤ b2 by rw [hb2e]; exact HB2.out.size)
            obtain ⟨b0, b1⟩ := two_box HX3.out
            clear hst hb3 hb2e HB2 HX2
            go_upto_region 12 with (fail)
            refine gen_world (S := fun u => Below w3.heap.size w3 u ∧ u.heap[w3.heap.size]? = some (.cells #[.pointer (some ⟨b2 + 1, 0, none⟩), .int .i64 p.1, .int .i64 p.2, .int .i64 lev, .slice aao z acap, .slice none 0 0, .slice none 0 0, .bool true] 35 (0, 0))) (one_new w3 _) (fun u5 hu => ?_)
            obtain ⟨hb5, hs5⟩ := hu
            have HX5 := Lib.hid ((hb5.block _ (lt_of_block HX3.out)).trans HX3.out)
            have HB5 := Lib.hid (HB3.out.trans (hb5.mono HB3.out.size))
            have HbA := Lib.hid (show b2 ≤ w3.heap.size from Nat.le_of_lt (Nat.lt_of_le_of_lt HSt.out.bs (lt_of_block HSt.out.blk)))
            have HS5 := Lib.hid (HSt.out.later hb5)
            obtain ⟨A, hA⟩ : ∃ A, A = w3.heap.size := ⟨_, rfl⟩
            rw [← hA] at hs5 HbA ⊢
            have HA5 := Lib.hid hs5
            clear b0 b1 hb5 hs5 hA HX3 HB3 HSt
            obtain ⟨b0, b1⟩ := two_box HX5.out
            have hb2u : b2 ≤ u5.heap.size := Nat.le_of_lt (Nat.lt_of_le_of_lt HS5.out.bs (lt_of_block HS5.out.blk))
            have hans : @AnsS noWatch b2 u5 (.slice aao z acap) l := fun w' hk => HA.out.later (HB5.out.trans ((KeepT.below hk hb2u).mono Hb2.out))
            have hg := grow_new (lev := lev) u5 HS5.out (fun x hx e => by simp at hx) HW.out (by simp) HA5.out HbA.out hans (by have := Hl.out; have := Hz.out; omega) (fun a ha => by
              obtain ⟨i, hi, rfl⟩ := List.getElem_of_mem ha
              have := Ht.out i
              rw [atA_lt hi] at this
              omega) HT.out
            have hR : grR l T = ⟨decide (0 < T), lastEn l T, farN l (T + 1), lastT l T, T + 1, 0⟩ := by unfold grR; rw [if_pos HTe.out]
            obtain ⟨T1, hT1⟩ : ∃ T1, T1 = T + 1 := ⟨_, rfl⟩
            obtain ⟨tb, htb⟩ : ∃ tb, tb = decide (0 < T) := ⟨_, rfl⟩
            obtain ⟨ee, hee⟩ : ∃ ee, ee = lastEn l T := ⟨_, rfl⟩
            rw [← hT1, ← htb, ← hee] at hR
            rw [hR, ← hT1] at hg
            simp only at hg
            have HG := Lib.hid hg
            have HT1 := Lib.hid hT1
            have Htb := Lib.hid htb
            have Hee := Lib.hid hee
            have Hb2u := Lib.hid hb2u
            unfold bodyF at HG
            clear hg hR hT1 htb hee hans hb2u
            go_wp2_with fail
            refine HG.out.mono ?_
            rintro e w7 ⟨v, rv, rl, gl, sv7, rfl, -, hc7, -, hv7, -, hk7, -⟩
            obtain ⟨vo, vc, rfl⟩ := hv7.1.val
            have HB7 := Lib.hid (HB5.out.trans ((KeepT.below hk7 Hb2u.out).mono Hb2.out))
            obtain ⟨rvo, rvc, rfl⟩ := own_val hc7.row
            have hrow := hc7.row
            have hblk := hc7.blk
            rw [rdsA_len] at hrow hblk
            have HRw := Lib.hid hrow
            have HD7 := Lib.hid hblk
            clear hc7 hv7 hk7 hrow hblk HG b0 b1 HS5 HX5 HB5 HA5
            go_upto_region 13 with (fail)
            refine gen_world (S := fun u => Below w7.heap.size w7 u ∧ u.heap[w7.heap.size]? = some (.cells #[.bool tb, .int .i64 ee, .int .i64 (farN l T1), .slice vo (lastT l T).length vc] 38 (0, 0))) (one_new w7 _) (fun wv8 hu => ?_)
            obtain ⟨hb8, hx8⟩ := hu
            have HB8 := Lib.hid (HB7.out.trans (hb8.mono HB7.out.size))
            have HR8 := Lib.hid (row_keepT (T := []) (B := 0) (mp := false) HRw.out (KeepT.ofBelow hb8) (by simp))
            have HD8 := Lib.hid ((hb8.block _ (lt_of_block HD7.out)).trans HD7.out)
            obtain ⟨X, hX⟩ : ∃ X, X = w7.heap.size := ⟨_, rfl⟩
            rw [← hX] at hx8 ⊢
            have HX8 := Lib.hid hx8
            clear hb8 hx8 hX HB7 HRw HD7
            obtain ⟨x0, x1, x2, x3, -⟩ := four_box HX8.out
            have s5 := ((block_cell' HD8.out 5).1).trans (show _ = some (.slice rvo T1 rvc) from rfl)
            obtain ⟨rb, ro, rfl, c0, c1, c2⟩ := rd_cells HR8.out 0 (by have := HT1.out; omega)
            have hr0 : rdA l lev 0 = (0, 0, 2) := rfl
            rw [hr0] at c0 c1 c2
            simp only [Nat.zero_mul, Nat.add_zero] at c0 c1 c2
            have hq1 : decide ((1 : Int) < (T1 : Int)) = tb := by have := HT1.out; rw [Htb.out, Bool.eq_iff_iff]; simp; omega
            have hq2 : decide (1 < T1) = tb := by have := HT1.out; rw [Htb.out, Bool.eq_iff_iff]; simp; omega
            have hq3 : ¬ ((T1 : Int) < 1) := by have := HT1.out; omega
            have hq4 : (0 : Int) < (T1 : Int) := by have := HT1.out; omega
            have HQ1 := Lib.hid hq1
            have HQ2 := Lib.hid hq2
            have Hr0 := Lib.hid hr0
            clear hr0
            go_wp2_with fail
            clear x0 x1 x2 x3 s5 c0 c1 c2 hq1 hq2 hq3 hq4
            go_loopw [15, 16] (fun v15 v16 wr => ∃ (b : Bool) (i : Nat), 1 ≤ i ∧ i ≤ T1 ∧ v15 = .bool b ∧ v16 = .int .i64 i ∧ (b = true → ∀ j, j + 1 < i → 0 ≤ (atA l j).en ∧ (atA l j).en ≤ nn) ∧ Below wv8.heap.size wv8 wr) (fun _ i _ => T1 - (intOf i).toNat)
            case atStart => exact ⟨true, 1, Nat.le_refl _, by have := HT1.out; omega, rfl, rfl, fun _ j hj => by omega, Below.refl _ _⟩
            case round =>
              obtain ⟨bb, i, hi1, hi, rfl, rfl, hbd, hbel⟩ := hrel
              have Hbd := Lib.hid hbd
              have Hbel := Lib.hid hbel
              have HRr := Lib.hid (row_keepT (T := []) (B := 0) (mp := false) HR8.out (KeepT.ofBelow hbel) (by simp))
              have s5 := ((block_cell' ((hbel.block _ (lt_of_block HD8.out)).trans HD8.out) 5).1).trans (show _ = some (.slice (some ⟨rb, ro, none⟩) T1 rvc) from rfl)
              clear hbd hbel
              by_cases hlt : i < T1
              · have hlt' : (i : Int) < T1 := by omega
                have hTb := HT1.out
                have hTz := HTl.out
                have hzl := Hl.out
                have hzz := Hz.out
                have hw9 : IntKind.i64.wrap ((i : Int) + 1) = (i : Int) + 1 := IntWalk.i64_in _ (by omega)
                obtain ⟨j, hj⟩ : ∃ j, j = i - 1 := ⟨_, rfl⟩
                have hw8 : IntKind.i64.wrap ((i : Int) - 1) = (j : Int) := (IntWalk.i64_in _ (by omega)).trans (by omega)
                obtain ⟨rb', ro', he, c0, c1, c2⟩ := rd_cells HRr.out i hlt
                simp only [Option.some.injEq, Addr.mk.injEq, and_true] at he
                obtain ⟨rfl, rfl⟩ := he
                have hrd : rdA l lev i = ((atA l j).en, lev, 3) := by unfold rdA; rw [if_neg (by omega), hj]
                rw [hrd] at c0 c1 c2
                simp only at c0 c1 c2
                have hjT : (j : Int) < (T1 : Int) := by omega
                have hj0 : ¬ (j : Int) < 0 := by omega
                obtain ⟨rb', ro', he, d0, -, -⟩ := rd_cells HRr.out j (by omega)
                simp only [Option.some.injEq, Addr.mk.injEq, and_true] at he
                obtain ⟨rfl, rfl⟩ := he
                have HHlt := Lib.hid hlt
                have Hj := Lib.hid hj
                have Hi1 := Lib.hid hi1
                have hup : ∀ jj, j = jj + 1 → (atA l jj).en < (atA l j).en := fun jj hjj => by
                  rcases (HT.out.1 j (by omega)).2.2 with h2 | h2
                  · omega
                  · rw [hjj, Nat.add_sub_cancel] at h2; rw [hjj]; exact h2
                have HUp := Lib.hid hup
                clear hrd hTb hTz hzl hzz hlt hj hi1 hi hup
                go_upto_region 20 with (fail)
                refine gen_world (S := fun u => Below wr.heap.size wr u ∧ u.heap[wr.heap.size]? = some (.cells #[.int .i64 (atA l j).en, .int .i64 lev, .int .i64 3] 51 (0, 0))) (one_new wr _) (fun u hu => ?_)
                obtain ⟨hbu, hzb⟩ := hu
                obtain ⟨z0, z1, z2, -⟩ := three_box hzb
                have S5 := Lib.hid (cell_later hbu s5)
                have D0 := Lib.hid (cell_later hbu d0)
                have HBu := Lib.hid (Hbel.out.trans (hbu.mono Hbel.out.size))
                have HM := Lib.hid (fun (wq : World) (hb : Below u.heap.size u wq) => at_lit _ l j wq (HA.out.later ((HB8.out.trans (HBu.out.mono HB8.out.size)).trans (hb.mono (HB8.out.trans (HBu.out.mono HB8.out.size)).size))))
                obtain ⟨Z, hZ⟩ : ∃ Z, Z = wr.heap.size := ⟨_, rfl⟩
                rw [← hZ] at z0 z1 z2 ⊢
                have Z0 := Lib.hid z0
                have Z1 := Lib.hid z1
                have Z2 := Lib.hid z2
                have q43 := an_field0
                have q45 := fo_field1
                clear hbu hzb hZ s5 c0 c1 c2 d0 z0 z1 z2
                go_cut [145] (fun t145 w1 => t145 = .bool false ∧ Below wv8.heap.size wv8 w1 ∧ w1.cell? ⟨Z, 0, none⟩ = some (.int .i64 (atA l j).en))
                case first =>
                  by_cases hj1 : j = 0
                  · have q0 : decide (1 < i) = false := by have := Hj.out; have := Hi1.out; simp; omega
                    have q1 : decide ((1 : Int) < (i : Int)) = false := by have := Hj.out; have := Hi1.out; simp; omega
                    clear hj1
                    refine wp_region_held_drew (S := fun wq => Below u.heap.size u wq) (by kernel_rfl) ((Below.refl _ _).drew) (fun hS => ?_)
                    refine wpAnyH_take (i := 0) (oi := ⟨_, _, _, _, _, _⟩) (v := ?v1) rfl (by kernel_rfl) (by kernel_rfl) (by kernel_rfl) (fun _ _ _ h => h) ?y1 hS ?_
                    case y1 => first | (refine Or.inr ⟨by rfl, ?_⟩; with_reducible rfl) | (refine Or.inl ⟨by rfl, ?_⟩; intro wS hSw; have z0S := cell_later hSw Z0.out; have z1S := cell_later hSw Z1.out; have z2S := cell_later hSw Z2.out; have s5S := cell_later hSw S5.out; go_simp; try with_reducible rfl)
                    simp only [Act.put, List.setIfInBounds_toArray, List.set_cons_zero, List.set_cons_succ]
                    refine wpAnyH_take (i := 1) (oi := ⟨_, _, _, _, _, _⟩) (v := ?v2) rfl (by kernel_rfl) (by kernel_rfl) (by kernel_rfl) (fun _ _ _ h => h) ?y2 hS ?_
                    case y2 => first | (refine Or.inr ⟨by rfl, ?_⟩; with_reducible rfl) | (refine Or.inl ⟨by rfl, ?_⟩; intro wS hSw; have z0S := cell_later hSw Z0.out; have z1S := cell_later hSw Z1.out; have z2S := cell_later hSw Z2.out; have s5S := cell_later hSw S5.out; go_simp; try with_reducible rfl)
                    simp only [Act.put, List.setIfInBounds_toArray, List.set_cons_zero, List.set_cons_succ]
                    refine wpAnyH_take (i := 2) (oi := ⟨_, _, _, _, _, _⟩) (v := ?v3) rfl (by kernel_rfl) (by kernel_rfl) (by kernel_rfl) (fun _ _ _ h => h) ?y3 hS ?_
                    case y3 => first | (refine Or.inr ⟨by rfl, ?_⟩; with_reducible rfl) | (refine Or.inl ⟨by rfl, ?_⟩; intro wS hSw; have z0S := cell_later hSw Z0.out; have z1S := cell_later hSw Z1.out; have z2S := cell_later hSw Z2.out; have s5S := cell_later hSw S5.out; go_simp; try with_reducible rfl)
                    simp only [Act.put, List.setIfInBounds_toArray, List.set_cons_zero, List.set_cons_succ]
                    refine wpAnyH_take (i := 3) (oi := ⟨_, _, _, _, _, _⟩) (v := ?v4) rfl (by kernel_rfl) (by kernel_rfl) (by kernel_rfl) (fun _ _ _ h => h) ?y4 hS ?_
                    case y4 => first | (refine Or.inr ⟨by rfl, ?_⟩; with_reducible rfl) | (refine Or.inl ⟨by rfl, ?_⟩; intro wS hSw; have z0S := cell_later hSw Z0.out; have z1S := cell_later hSw Z1.out; have z2S := cell_later hSw Z2.out; have s5S := cell_later hSw S5.out; go_simp; try with_reducible rfl)
                    simp only [Act.put, List.setIfInBounds_toArray, List.set_cons_zero, List.set_cons_succ]
                    refine wpAnyH_take (i := 4) (oi := ⟨_, _, _, _, _, _⟩) (v := ?v5) rfl (by kernel_rfl) (by kernel_rfl) (by kernel_rfl) (fun _ _ _ h => h) ?y5 hS ?_
                    case y5 => first | (refine Or.inr ⟨by rfl, ?_⟩; with_reducible rfl) | (refine Or.inl ⟨by rfl, ?_⟩; intro wS hSw; have z0S := cell_later hSw Z0.out; have z1S := cell_later hSw Z1.out; have z2S := cell_later hSw Z2.out; have s5S := cell_later hSw S5.out; go_simp; try with_reducible rfl)
                    simp only [Act.put, List.setIfInBounds_toArray, List.set_cons_zero, List.set_cons_succ]
                    refine wpAnyH_take (i := 5) (oi := ⟨_, _, _, _, _, _⟩) (v := ?v6) rfl (by kernel_rfl) (by kernel_rfl) (by kernel_rfl) (fun _ _ _ h => h) ?y6 hS ?_
                    case y6 => first | (refine Or.inr ⟨by rfl, ?_⟩; with_reducible rfl) | (refine Or.inl ⟨by rfl, ?_⟩; intro wS hSw; have z0S := cell_later hSw Z0.out; have z1S := cell_later hSw Z1.out; have z2S := cell_later hSw Z2.out; have s5S := cell_later hSw S5.out; go_simp; try with_reducible rfl)
                    simp only [Act.put, List.setIfInBounds_toArray, List.set_cons_zero, List.set_cons_succ]
                    refine wpAnyH_take (i := 6) (oi := ⟨_, _, _, _, _, _⟩) (v := ?v7) rfl (by kernel_rfl) (by kernel_rfl) (by kernel_rfl) (fun _ _ _ h => h) ?y7 hS ?_
                    case y7 => first | (refine Or.inr ⟨by rfl, ?_⟩; with_reducible rfl) | (refine Or.inl ⟨by rfl, ?_⟩; intro wS hSw; have z0S := cell_later hSw Z0.out; have z1S := cell_later hSw Z1.out; have z2S := cell_later hSw Z2.out; have s5S := cell_later hSw S5.out; go_simp; try with_reducible rfl)
                    simp only [Act.put, List.setIfInBounds_toArray, List.set_cons_zero, List.set_cons_succ]
                    refine wpAnyH_take (i := 7) (oi := ⟨_, _, _, _, _, _⟩) (v := ?v8) rfl (by kernel_rfl) (by kernel_rfl) (by kernel_rfl) (fun _ _ _ h => h) ?y8 hS ?_
                    case y8 => first | (refine Or.inr ⟨by rfl, ?_⟩; with_reducible rfl) | (refine Or.inl ⟨by rfl, ?_⟩; intro wS hSw; have z0S := cell_later hSw Z0.out; have z1S := cell_later hSw Z1.out; have z2S := cell_later hSw Z2.out; have s5S := cell_later hSw S5.out; go_simp; try with_reducible rfl)
                    simp only [Act.put, List.setIfInBounds_toArray, List.set_cons_zero, List.set_cons_succ]
                    refine wpAnyH_take (i := 8) (oi := ⟨_, _, _, _, _, _⟩) (v := ?v9) rfl (by kernel_rfl) (by kernel_rfl) (by kernel_rfl) (fun _ _ _ h => h) ?y9 hS ?_
                    case y9 => first | (refine Or.inr ⟨by rfl, ?_⟩; with_reducible rfl) | (refine Or.inl ⟨by rfl, ?_⟩; intro wS hSw; have z0S := cell_later hSw Z0.out; have z1S := cell_later hSw Z1.out; have z2S := cell_later hSw Z2.out; have s5S := cell_later hSw S5.out; go_simp; try with_reducible rfl)
                    simp only [Act.put, List.setIfInBounds_toArray, List.set_cons_zero, List.set_cons_succ]
                    refine wpAnyH_take (i := 9) (oi := ⟨_, _, _, _, _, _⟩) (v := ?v10) rfl (by kernel_rfl) (by kernel_rfl) (by kernel_rfl) (fun _ _ _ h => h) ?y10 hS ?_
                    case y10 => first | (refine Or.inr ⟨by rfl, ?_⟩; with_reducible rfl) | (refine Or.inl ⟨by rfl, ?_⟩; intro wS hSw; have z0S := cell_later hSw Z0.out; have z1S := cell_later hSw Z1.out; have z2S := cell_later hSw Z2.out; have s5S := cell_later hSw S5.out; go_simp; try with_reducible rfl)
                    simp only [Act.put, List.setIfInBounds_toArray, List.set_cons_zero, List.set_cons_succ]
                    refine wpAnyH_take (i := 10) (oi := ⟨_, _, _, _, _, _⟩) (v := ?v11) rfl (by kernel_rfl) (by kernel_rfl) (by kernel_rfl) (fun _ _ _ h => h) ?y11 hS ?_
                    case y11 => first | (refine Or.inr ⟨by rfl, ?_⟩; with_reducible rfl) | (refine Or.inl ⟨by rfl, ?_⟩; intro wS hSw; have z0S := cell_later hSw Z0.out; have z1S := cell_later hSw Z1.out; have z2S := cell_later hSw Z2.out; have s5S := cell_later hSw S5.out; go_simp; try with_reducible rfl)
                    simp only [Act.put, List.setIfInBounds_toArray, List.set_cons_zero, List.set_cons_succ]
                    refine wpAnyH_take (i := 11) (oi := ⟨_, _, _, _, _, _⟩) (v := ?v12) rfl (by kernel_rfl) (by kernel_rfl) (by kernel_rfl) (fun _ _ _ h => h) ?y12 hS ?_
                    case y12 => first | (refine Or.inr ⟨by rfl, ?_⟩; with_reducible rfl) | (refine Or.inl ⟨by rfl, ?_⟩; intro wS hSw; have z0S := cell_later hSw Z0.out; have z1S := cell_later hSw Z1.out; have z2S := cell_later hSw Z2.out; have s5S := cell_later hSw S5.out; go_simp; try with_reducible rfl)
                    simp only [Act.put, List.setIfInBounds_toArray, List.set_cons_zero, List.set_cons_succ]
                    refine wpAnyH_take (i := 12) (oi := ⟨_, _, _, _, _, _⟩) (v := ?v13) rfl (by kernel_rfl) (by kernel_rfl) (by kernel_rfl) (fun _ _ _ h => h) ?y13 hS ?_
                    case y13 => first | (refine Or.inr ⟨by rfl, ?_⟩; with_reducible rfl) | (refine Or.inl ⟨by rfl, ?_⟩; intro wS hSw; have z0S := cell_later hSw Z0.out; have z1S := cell_later hSw Z1.out; have z2S := cell_later hSw Z2.out; have s5S := cell_later hSw S5.out; go_simp; try with_reducible rfl)
                    simp only [Act.put, List.setIfInBounds_toArray, List.set_cons_zero, List.set_cons_succ]
                    refine wpAnyH_take (i := 13) (oi := ⟨_, _, _, _, _, _⟩) (v := ?v14) rfl (by kernel_rfl) (by kernel_rfl) (by kernel_rfl) (fun _ _ _ h => h) ?y14 hS ?_
                    case y14 => first | (refine Or.inr ⟨by rfl, ?_⟩; with_reducible rfl) | (refine Or.inl ⟨by rfl, ?_⟩; intro wS hSw; have z0S := cell_later hSw Z0.out; have z1S := cell_later hSw Z1.out; have z2S := cell_later hSw Z2.out; have s5S := cell_later hSw S5.out; go_simp; try with_reducible rfl)
                    simp only [Act.put, List.setIfInBounds_toArray, List.set_cons_zero, List.set_cons_succ]
                    refine wpAnyH_take (i := 14) (oi := ⟨_, _, _, _, _, _⟩) (v := ?v15) rfl (by kernel_rfl) (by kernel_rfl) (by kernel_rfl) (fun _ _ _ h => h) ?y15 hS ?_
                    case y15 => first | (refine Or.inr ⟨by rfl, ?_⟩; with_reducible rfl) | (refine Or.inl ⟨by rfl, ?_⟩; intro wS hSw; have z0S := cell_later hSw Z0.out; have z1S := cell_later hSw Z1.out; have z2S := cell_later hSw Z2.out; have s5S := cell_later hSw S5.out; go_simp; try with_reducible rfl)
                    simp only [Act.put, List.setIfInBounds_toArray, List.set_cons_zero, List.set_cons_succ]
                    refine wpAnyH_ready (rs := [15]) (by kernel_rfl) (by simp) ?_
                    refine AllReadyH.cons (o := ⟨_, _, _, _, _, _⟩) rfl (fun K hK => ?_) AllReadyH.nil
                    go_simp
                    refine (HM.out _ hS).mono ?_
                    rintro e wx ⟨xo, xc, rfl, -, hbx⟩
                    have hS : Below u.heap.size u wx := hS.trans (hbx.mono hS.size)
                    go_wp2_with fail
                    refine hK.out _ _ hS (fun _ => ?_)
                    clear hK K
                    try simp only [Act.put, List.setIfInBounds_toArray, List.set_cons_zero, List.set_cons_succ]
                    refine wpAnyH_take (i := 16) (oi := ⟨_, _, _, _, _, _⟩) (v := ?v16) rfl (by kernel_rfl) (by kernel_rfl) (by kernel_rfl) (fun _ _ _ h => h) ?y16 hS ?_
                    case y16 => first | (refine Or.inr ⟨by rfl, ?_⟩; with_reducible rfl) | (refine Or.inl ⟨by rfl, ?_⟩; intro wS hSw; have z0S := cell_later hSw Z0.out; have z1S := cell_later hSw Z1.out; have z2S := cell_later hSw Z2.out; have s5S := cell_later hSw S5.out; go_simp; try with_reducible rfl)
                    simp only [Act.put, List.setIfInBounds_toArray, List.set_cons_zero, List.set_cons_succ]
                    refine wpAnyH_take (i := 17) (oi := ⟨_, _, _, _, _, _⟩) (v := ?v17) rfl (by kernel_rfl) (by kernel_rfl) (by kernel_rfl) (fun _ _ _ h => h) ?y17 hS ?_
                    case y17 => first | (refine Or.inr ⟨by rfl, ?_⟩; with_reducible rfl) | (refine Or.inl ⟨by rfl, ?_⟩; intro wS hSw; have z0S := cell_later hSw Z0.out; have z1S := cell_later hSw Z1.out; have z2S := cell_later hSw Z2.out; have s5S := cell_later hSw S5.out; go_simp; try with_reducible rfl)
                    simp only [Act.put, List.setIfInBounds_toArray, List.set_cons_zero, List.set_cons_succ]
                    refine wpAnyH_take (i := 18) (oi := ⟨_, _, _, _, _, _⟩) (v := ?v18) rfl (by kernel_rfl) (by kernel_rfl) (by kernel_rfl) (fun _ _ _ h => h) ?y18 hS ?_
                    case y18 => first | (refine Or.inr ⟨by rfl, ?_⟩; with_reducible rfl) | (refine Or.inl ⟨by rfl, ?_⟩; intro wS hSw; have z0S := cell_later hSw Z0.out; have z1S := cell_later hSw Z1.out; have z2S := cell_later hSw Z2.out; have s5S := cell_later hSw S5.out; go_simp; try with_reducible rfl)
                    simp only [Act.put, List.setIfInBounds_toArray, List.set_cons_zero, List.set_cons_succ]
                    refine wpAnyH_take (i := 19) (oi := ⟨_, _, _, _, _, _⟩) (v := ?v19) rfl (by kernel_rfl) (by kernel_rfl) (by kernel_rfl) (fun _ _ _ h => h) ?y19 hS ?_
                    case y19 => first | (refine Or.inr ⟨by rfl, ?_⟩; with_reducible rfl) | (refine Or.inl ⟨by rfl, ?_⟩; intro wS hSw; have z0S := cell_later hSw Z0.out; have z1S := cell_later hSw Z1.out; have z2S := cell_later hSw Z2.out; have s5S := cell_later hSw S5.out; go_simp; try with_reducible rfl)
                    simp only [Act.put, List.setIfInBounds_toArray, List.set_cons_zero, List.set_cons_succ]
                    refine wpAnyH_take (i := 20) (oi := ⟨_, _, _, _, _, _⟩) (v := ?v20) rfl (by kernel_rfl) (by kernel_rfl) (by kernel_rfl) (fun _ _ _ h => h) ?y20 hS ?_
                    case y20 => first | (refine Or.inr ⟨by rfl, ?_⟩; with_reducible rfl) | (refine Or.inl ⟨by rfl, ?_⟩; intro wS hSw; have z0S := cell_later hSw Z0.out; have z1S := cell_later hSw Z1.out; have z2S := cell_later hSw Z2.out; have s5S := cell_later hSw S5.out; go_simp; try with_reducible rfl)
                    simp only [Act.put, List.setIfInBounds_toArray, List.set_cons_zero, List.set_cons_succ]
                    refine wpAnyH_take (i := 21) (oi := ⟨_, _, _, _, _, _⟩) (v := ?v21) rfl (by kernel_rfl) (by kernel_rfl) (by kernel_rfl) (fun _ _ _ h => h) ?y21 hS ?_
                    case y21 => first | (refine Or.inr ⟨by rfl, ?_⟩; with_reducible rfl) | (refine Or.inl ⟨by rfl, ?_⟩; intro wS hSw; have z0S := cell_later hSw Z0.out; have z1S := cell_later hSw Z1.out; have z2S := cell_later hSw Z2.out; have s5S := cell_later hSw S5.out; go_simp; try with_reducible rfl)
                    simp only [Act.put, List.setIfInBounds_toArray, List.set_cons_zero, List.set_cons_succ]
                    refine wpAnyH_take (i := 22) (oi := ⟨_, _, _, _, _, _⟩) (v := ?v22) rfl (by kernel_rfl) (by kernel_rfl) (by kernel_rfl) (fun _ _ _ h => h) ?y22 hS ?_
                    case y22 => first | (refine Or.inr ⟨by rfl, ?_⟩; with_reducible rfl) | (refine Or.inl ⟨by rfl, ?_⟩; intro wS hSw; have z0S := cell_later hSw Z0.out; have z1S := cell_later hSw Z1.out; have z2S := cell_later hSw Z2.out; have s5S := cell_later hSw S5.out; go_simp; try with_reducible rfl)
                    simp only [Act.put, List.setIfInBounds_toArray, List.set_cons_zero, List.set_cons_succ]
                    refine wpAnyH_take (i := 23) (oi := ⟨_, _, _, _, _, _⟩) (v := ?v23) rfl (by kernel_rfl) (by kernel_rfl) (by kernel_rfl) (fun _ _ _ h => h) ?y23 hS ?_
                    case y23 => first | (refine Or.inr ⟨by rfl, ?_⟩; with_reducible rfl) | (refine Or.inl ⟨by rfl, ?_⟩; intro wS hSw; have z0S := cell_later hSw Z0.out; have z1S := cell_later hSw Z1.out; have z2S := cell_later hSw Z2.out; have s5S := cell_later hSw S5.out; go_simp; try with_reducible rfl)
                    simp only [Act.put, List.setIfInBounds_toArray, List.set_cons_zero, List.set_cons_succ]
                    refine wpAnyH_take (i := 24) (oi := ⟨_, _, _, _, _, _⟩) (v := ?v24) rfl (by kernel_rfl) (by kernel_rfl) (by kernel_rfl) (fun _ _ _ h => h) ?y24 hS ?_
                    case y24 => first | (refine Or.inr ⟨by rfl, ?_⟩; with_reducible rfl) | (refine Or.inl ⟨by rfl, ?_⟩; intro wS hSw; have z0S := cell_later hSw Z0.out; have z1S := cell_later hSw Z1.out; have z2S := cell_later hSw Z2.out; have s5S := cell_later hSw S5.out; go_simp; try with_reducible rfl)
                    simp only [Act.put, List.setIfInBounds_toArray, List.set_cons_zero, List.set_cons_succ]
                    refine wpAnyH_take (i := 25) (oi := ⟨_, _, _, _, _, _⟩) (v := ?v25) rfl (by kernel_rfl) (by kernel_rfl) (by kernel_rfl) (fun _ _ _ h => h) ?y25 hS ?_
                    case y25 => first | (refine Or.inr ⟨by rfl, ?_⟩; with_reducible rfl) | (refine Or.inl ⟨by rfl, ?_⟩; intro wS hSw; have z0S := cell_later hSw Z0.out; have z1S := cell_later hSw Z1.out; have z2S := cell_later hSw Z2.out; have s5S := cell_later hSw S5.out; go_simp; try with_reducible rfl)
                    simp only [Act.put, List.setIfInBounds_toArray, List.set_cons_zero, List.set_cons_succ]
                    refine wpAnyH_take (i := 26) (oi := ⟨_, _, _, _, _, _⟩) (v := ?v26) rfl (by kernel_rfl) (by kernel_rfl) (by kernel_rfl) (fun _ _ _ h => h) ?y26 hS ?_
                    case y26 => first | (refine Or.inr ⟨by rfl, ?_⟩; with_reducible rfl) | (refine Or.inl ⟨by rfl, ?_⟩; intro wS hSw; have z0S := cell_later hSw Z0.out; have z1S := cell_later hSw Z1.out; have z2S := cell_later hSw Z2.out; have s5S := cell_later hSw S5.out; go_simp; try with_reducible rfl)
                    simp only [Act.put, List.setIfInBounds_toArray, List.set_cons_zero, List.set_cons_succ]
                    refine wpAnyH_take (i := 27) (oi := ⟨_, _, _, _, _, _⟩) (v := ?v27) rfl (by kernel_rfl) (by kernel_rfl) (by kernel_rfl) (fun _ _ _ h => h) ?y27 hS ?_
                    case y27 => first | (refine Or.inr ⟨by rfl, ?_⟩; with_reducible rfl) | (refine Or.inl ⟨by rfl, ?_⟩; intro wS hSw; have z0S := cell_later hSw Z0.out; have z1S := cell_later hSw Z1.out; have z2S := cell_later hSw Z2.out; have s5S := cell_later hSw S5.out; go_simp; try with_reducible rfl)
                    simp only [Act.put, List.setIfInBounds_toArray, List.set_cons_zero, List.set_cons_succ]
                    refine wpAnyH_take (i := 28) (oi := ⟨_, _, _, _, _, _⟩) (v := ?v28) rfl (by kernel_rfl) (by kernel_rfl) (by kernel_rfl) (fun _ _ _ h => h) ?y28 hS ?_
                    case y28 => first | (refine Or.inr ⟨by rfl, ?_⟩; with_reducible rfl) | (refine Or.inl ⟨by rfl, ?_⟩; intro wS hSw; have z0S := cell_later hSw Z0.out; have z1S := cell_later hSw Z1.out; have z2S := cell_later hSw Z2.out; have s5S := cell_later hSw S5.out; go_simp; try with_reducible rfl)
                    simp only [Act.put, List.setIfInBounds_toArray, List.set_cons_zero, List.set_cons_succ]
                    refine wpAnyH_take (i := 29) (oi := ⟨_, _, _, _, _, _⟩) (v := ?v29) rfl (by kernel_rfl) (by kernel_rfl) (by kernel_rfl) (fun _ _ _ h => h) ?y29 hS ?_
                    case y29 => first | (refine Or.inr ⟨by rfl, ?_⟩; with_reducible rfl) | (refine Or.inl ⟨by rfl, ?_⟩; intro wS hSw; have z0S := cell_later hSw Z0.out; have z1S := cell_later hSw Z1.out; have z2S := cell_later hSw Z2.out; have s5S := cell_later hSw S5.out; go_simp; try with_reducible rfl)
                    simp only [Act.put, List.setIfInBounds_toArray, List.set_cons_zero, List.set_cons_succ]
                    refine wpAnyH_take (i := 30) (oi := ⟨_, _, _, _, _, _⟩) (v := ?v30) rfl (by kernel_rfl) (by kernel_rfl) (by kernel_rfl) (fun _ _ _ h => h) ?y30 hS ?_
                    case y30 => first | (refine Or.inr ⟨by rfl, ?_⟩; with_reducible rfl) | (refine Or.inl ⟨by rfl, ?_⟩; intro wS hSw; have z0S := cell_later hSw Z0.out; have z1S := cell_later hSw Z1.out; have z2S := cell_later hSw Z2.out; have s5S := cell_later hSw S5.out; go_simp; try with_reducible rfl)
                    simp only [Act.put, List.setIfInBounds_toArray, List.set_cons_zero, List.set_cons_succ]
                    refine wpAnyH_take (i := 31) (oi := ⟨_, _, _, _, _, _⟩) (v := ?v31) rfl (by kernel_rfl) (by kernel_rfl) (by kernel_rfl) (fun _ _ _ h => h) ?y31 hS ?_
                    case y31 => first | (refine Or.inr ⟨by rfl, ?_⟩; with_reducible rfl) | (refine Or.inl ⟨by rfl, ?_⟩; intro wS hSw; have z0S := cell_later hSw Z0.out; have z1S := cell_later hSw Z1.out; have z2S := cell_later hSw Z2.out; have s5S := cell_later hSw S5.out; go_simp; try with_reducible rfl)
                    simp only [Act.put, List.setIfInBounds_toArray, List.set_cons_zero, List.set_cons_succ]
                    refine wpAnyH_take (i := 32) (oi := ⟨_, _, _, _, _, _⟩) (v := ?v32) rfl (by kernel_rfl) (by kernel_rfl) (by kernel_rfl) (fun _ _ _ h => h) ?y32 hS ?_
                    case y32 => first | (refine Or.inr ⟨by rfl, ?_⟩; with_reducible rfl) | (refine Or.inl ⟨by rfl, ?_⟩; intro wS hSw; have z0S := cell_later hSw Z0.out; have z1S := cell_later hSw Z1.out; have z2S := cell_later hSw Z2.out; have s5S := cell_later hSw S5.out; go_simp; try with_reducible rfl)
                    simp only [Act.put, List.setIfInBounds_toArray, List.set_cons_zero, List.set_cons_succ]
                    refine wpAnyH_take (i := 33) (oi := ⟨_, _, _, _, _, _⟩) (v := ?v33) rfl (by kernel_rfl) (by kernel_rfl) (by kernel_rfl) (fun _ _ _ h => h) ?y33 hS ?_
                    case y33 => first | (refine Or.inr ⟨by rfl, ?_⟩; with_reducible rfl) | (refine Or.inl ⟨by rfl, ?_⟩; intro wS hSw; have z0S := cell_later hSw Z0.out; have z1S := cell_later hSw Z1.out; have z2S := cell_later hSw Z2.out; have s5S := cell_later hSw S5.out; go_simp; try with_reducible rfl)
                    simp only [Act.put, List.setIfInBounds_toArray, List.set_cons_zero, List.set_cons_succ]
                    refine wpAnyH_take (i := 34) (oi := ⟨_, _, _, _, _, _⟩) (v := ?v34) rfl (by kernel_rfl) (by kernel_rfl) (by kernel_rfl) (fun _ _ _ h => h) ?y34 hS ?_
                    case y34 => first | (refine Or.inr ⟨by rfl, ?_⟩; with_reducible rfl) | (refine Or.inl ⟨by rfl, ?_⟩; intro wS hSw; have z0S := cell_later hSw Z0.out; have z1S := cell_later hSw Z1.out; have z2S := cell_later hSw Z2.out; have s5S := cell_later hSw S5.out; go_simp; try with_reducible rfl)
                    simp only [Act.put, List.setIfInBounds_toArray, List.set_cons_zero, List.set_cons_succ]
                    refine wpAnyH_take (i := 35) (oi := ⟨_, _, _, _, _, _⟩) (v := ?v35) rfl (by kernel_rfl) (by kernel_rfl) (by kernel_rfl) (fun _ _ _ h => h) ?y35 hS ?_
                    case y35 => first | (refine Or.inr ⟨by rfl, ?_⟩; with_reducible rfl) | (refine Or.inl ⟨by rfl, ?_⟩; intro wS hSw; have z0S := cell_later hSw Z0.out; have z1S := cell_later hSw Z1.out; have z2S := cell_later hSw Z2.out; have s5S := cell_later hSw S5.out; go_simp; try with_reducible rfl)
                    simp only [Act.put, List.setIfInBounds_toArray, List.set_cons_zero, List.set_cons_succ]
                    refine wpAnyH_take (i := 36) (oi := ⟨_, _, _, _, _, _⟩) (v := ?v36) rfl (by kernel_rfl) (by kernel_rfl) (by kernel_rfl) (fun _ _ _ h => h) ?y36 hS ?_
                    case y36 => first | (refine Or.inr ⟨by rfl, ?_⟩; with_reducible rfl) | (refine Or.inl ⟨by rfl, ?_⟩; intro wS hSw; have z0S := cell_later hSw Z0.out; have z1S := cell_later hSw Z1.out; have z2S := cell_later hSw Z2.out; have s5S := cell_later hSw S5.out; go_simp; try with_reducible rfl)
                    simp only [Act.put, List.setIfInBounds_toArray, List.set_cons_zero, List.set_cons_succ]
                    refine wpAnyH_take (i := 37) (oi := ⟨_, _, _, _, _, _⟩) (v := ?v37) rfl (by kernel_rfl) (by kernel_rfl) (by kernel_rfl) (fun _ _ _ h => h) ?y37 hS ?_
                    case y37 => first | (refine Or.inr ⟨by rfl, ?_⟩; with_reducible rfl) | (refine Or.inl ⟨by rfl, ?_⟩; intro wS hSw; have z0S := cell_later hSw Z0.out; have z1S := cell_later hSw Z1.out; have z2S := cell_later hSw Z2.out; have s5S := cell_later hSw S5.out; go_simp; try with_reducible rfl)
                    simp only [Act.put, List.setIfInBounds_toArray, List.set_cons_zero, List.set_cons_succ]
                    refine wpAnyH_done (by kernel_rfl) ?_ _
                    go_wp2_with fail
                    have HS := Lib.hid (HBu.out.trans (hS.mono HBu.out.size))
                    have Z0x := Lib.hid (cell_later hS Z0.out)
                    clear hS
                    have z0 := Z0x.out
                    go_meet
                    exact ⟨rfl, HS.out, z0⟩
                  · have q0 : decide (1 < i) = true := by have := Hj.out; have := Hi1.out; simp; omega
                    have q1 : decide ((1 : Int) < (i : Int)) = true := by have := Hj.out; have := Hi1.out; simp; omega
                    obtain ⟨jj, hjj⟩ : ∃ jj, jj = j - 1 := ⟨_, rfl⟩
                    have hrj : rdA l lev j = ((atA l jj).en, lev, 3) := by unfold rdA; rw [if_neg hj1, hjj]
                    rw [hrj] at D0
                    simp only at D0
                    have hlt2 := HUp.out jj (by omega)
                    have q2 : decide ((atA l j).en ≤ (atA l jj).en) = false := by simp; omega
                    clear hj1 hjj hrj hlt2
                    refine wp_region_held_drew (S := fun wq => Below u.heap.size u wq) (by kernel_rfl) ((Below.refl _ _).drew) (fun hS => ?_)
                    refine wpAnyH_take (i := 0) (oi := ⟨_, _, _, _, _, _⟩) (v := ?v38) rfl (by kernel_rfl) (by kernel_rfl) (by kernel_rfl) (fun _ _ _ h => h) ?y38 hS ?_
                    case y38 => first | (refine Or.inr ⟨by rfl, ?_⟩; with_reducible rfl) | (refine Or.inl ⟨by rfl, ?_⟩; intro wS hSw; have z0S := cell_later hSw Z0.out; have z1S := cell_later hSw Z1.out; have z2S := cell_later hSw Z2.out; have s5S := cell_later hSw S5.out; have d0S := cell_later hSw D0.out; go_simp; try with_reducible rfl)
                    simp only [Act.put, List.setIfInBounds_toArray, List.set_cons_zero, List.set_cons_succ]
                    refine wpAnyH_take (i := 1) (oi := ⟨_, _, _, _, _, _⟩) (v := ?v39) rfl (by kernel_rfl) (by kernel_rfl) (by kernel_rfl) (fun _ _ _ h => h) ?y39 hS ?_
                    case y39 => first | (refine Or.inr ⟨by rfl, ?_⟩; with_reducible rfl) | (refine Or.inl ⟨by rfl, ?_⟩; intro wS hSw; have z0S := cell_later hSw Z0.out; have z1S := cell_later hSw Z1.out; have z2S := cell_later hSw Z2.out; have s5S := cell_later hSw S5.out; have d0S := cell_later hSw D0.out; go_simp; try with_reducible rfl)
                    simp only [Act.put, List.setIfInBounds_toArray, List.set_cons_zero, List.set_cons_succ]
                    refine wpAnyH_take (i := 2) (oi := ⟨_, _, _, _, _, _⟩) (v := ?v40) rfl (by kernel_rfl) (by kernel_rfl) (by kernel_rfl) (fun _ _ _ h => h) ?y40 hS ?_
                    case y40 => first | (refine Or.inr ⟨by rfl, ?_⟩; with_reducible rfl) | (refine Or.inl ⟨by rfl, ?_⟩; intro wS hSw; have z0S := cell_later hSw Z0.out; have z1S := cell_later hSw Z1.out; have z2S := cell_later hSw Z2.out; have s5S := cell_later hSw S5.out; have d0S := cell_later hSw D0.out; go_simp; try with_reducible rfl)
                    simp only [Act.put, List.setIfInBounds_toArray, List.set_cons_zero, List.set_cons_succ]
                    refine wpAnyH_take (i := 3) (oi := ⟨_, _, _, _, _, _⟩) (v := ?v41) rfl (by kernel_rfl) (by kernel_rfl) (by kernel_rfl) (fun _ _ _ h => h) ?y41 hS ?_
                    case y41 => first | (refine Or.inr ⟨by rfl, ?_⟩; with_reducible rfl) | (refine Or.inl ⟨by rfl, ?_⟩; intro wS hSw; have z0S := cell_later hSw Z0.out; have z1S := cell_later hSw Z1.out; have z2S := cell_later hSw Z2.out; have s5S := cell_later hSw S5.out; have d0S := cell_later hSw D0.out; go_simp; try with_reducible rfl)
                    simp only [Act.put, List.setIfInBounds_toArray, List.set_cons_zero, List.set_cons_succ]
                    refine wpAnyH_take (i := 4) (oi := ⟨_, _, _, _, _, _⟩) (v := ?v42) rfl (by kernel_rfl) (by kernel_rfl) (by kernel_rfl) (fun _ _ _ h => h) ?y42 hS ?_
                    case y42 => first | (refine Or.inr ⟨by rfl, ?_⟩; with_reducible rfl) | (refine Or.inl ⟨by rfl, ?_⟩; intro wS hSw; have z0S := cell_later hSw Z0.out; have z1S := cell_later hSw Z1.out; have z2S := cell_later hSw Z2.out; have s5S := cell_later hSw S5.out; have d0S := cell_later hSw D0.out; go_simp; try with_reducible rfl)
                    simp only [Act.put, List.setIfInBounds_toArray, List.set_cons_zero, List.set_cons_succ]
                    refine wpAnyH_take (i := 5) (oi := ⟨_, _, _, _, _, _⟩) (v := ?v43) rfl (by kernel_rfl) (by kernel_rfl) (by kernel_rfl) (fun _ _ _ h => h) ?y43 hS ?_
                    case y43 => first | (refine Or.inr ⟨by rfl, ?_⟩; with_reducible rfl) | (refine Or.inl ⟨by rfl, ?_⟩; intro wS hSw; have z0S := cell_later hSw Z0.out; have z1S := cell_later hSw Z1.out; have z2S := cell_later hSw Z2.out; have s5S := cell_later hSw S5.out; have d0S := cell_later hSw D0.out; go_simp; try with_reducible rfl)
                    simp only [Act.put, List.setIfInBounds_toArray, List.set_cons_zero, List.set_cons_succ]
                    refine wpAnyH_take (i := 6) (oi := ⟨_, _, _, _, _, _⟩) (v := ?v44) rfl (by kernel_rfl) (by kernel_rfl) (by kernel_rfl) (fun _ _ _ h => h) ?y44 hS ?_
                    case y44 => first | (refine Or.inr ⟨by rfl, ?_⟩; with_reducible rfl) | (refine Or.inl ⟨by rfl, ?_⟩; intro wS hSw; have z0S := cell_later hSw Z0.out; have z1S := cell_later hSw Z1.out; have z2S := cell_later hSw Z2.out; have s5S := cell_later hSw S5.out; have d0S := cell_later hSw D0.out; go_simp; try with_reducible rfl)
                    simp only [Act.put, List.setIfInBounds_toArray, List.set_cons_zero, List.set_cons_succ]
                    refine wpAnyH_take (i := 7) (oi := ⟨_, _, _, _, _, _⟩) (v := ?v45) rfl (by kernel_rfl) (by kernel_rfl) (by kernel_rfl) (fun _ _ _ h => h) ?y45 hS ?_
                    case y45 => first | (refine Or.inr ⟨by rfl, ?_⟩; with_reducible rfl) | (refine Or.inl ⟨by rfl, ?_⟩; intro wS hSw; have z0S := cell_later hSw Z0.out; have z1S := cell_later hSw Z1.out; have z2S := cell_later hSw Z2.out; have s5S := cell_later hSw S5.out; have d0S := cell_later hSw D0.out; go_simp; try with_reducible rfl)
                    simp only [Act.put, List.setIfInBounds_toArray, List.set_cons_zero, List.set_cons_succ]
                    refine wpAnyH_take (i := 8) (oi := ⟨_, _, _, _, _, _⟩) (v := ?v46) rfl (by kernel_rfl) (by kernel_rfl) (by kernel_rfl) (fun _ _ _ h => h) ?y46 hS ?_
                    case y46 => first | (refine Or.inr ⟨by rfl, ?_⟩; with_reducible rfl) | (refine Or.inl ⟨by rfl, ?_⟩; intro wS hSw; have z0S := cell_later hSw Z0.out; have z1S := cell_later hSw Z1.out; have z2S := cell_later hSw Z2.out; have s5S := cell_later hSw S5.out; have d0S := cell_later hSw D0.out; go_simp; try with_reducible rfl)
                    simp only [Act.put, List.setIfInBounds_toArray, List.set_cons_zero, List.set_cons_succ]
                    refine wpAnyH_take (i := 9) (oi := ⟨_, _, _, _, _, _⟩) (v := ?v47) rfl (by kernel_rfl) (by kernel_rfl) (by kernel_rfl) (fun _ _ _ h => h) ?y47 hS ?_
                    case y47 => first | (refine Or.inr ⟨by rfl, ?_⟩; with_reducible rfl) | (refine Or.inl ⟨by rfl, ?_⟩; intro wS hSw; have z0S := cell_later hSw Z0.out; have z1S := cell_later hSw Z1.out; have z2S := cell_later hSw Z2.out; have s5S := cell_later hSw S5.out; have d0S := cell_later hSw D0.out; go_simp; try with_reducible rfl)
                    simp only [Act.put, List.setIfInBounds_toArray, List.set_cons_zero, List.set_cons_succ]
                    refine wpAnyH_take (i := 10) (oi := ⟨_, _, _, _, _, _⟩) (v := ?v48) rfl (by kernel_rfl) (by kernel_rfl) (by kernel_rfl) (fun _ _ _ h => h) ?y48 hS ?_
                    case y48 => first | (refine Or.inr ⟨by rfl, ?_⟩; with_reducible rfl) | (refine Or.inl ⟨by rfl, ?_⟩; intro wS hSw; have z0S := cell_later hSw Z0.out; have z1S := cell_later hSw Z1.out; have z2S := cell_later hSw Z2.out; have s5S := cell_later hSw S5.out; have d0S := cell_later hSw D0.out; go_simp; try with_reducible rfl)
                    simp only [Act.put, List.setIfInBounds_toArray, List.set_cons_zero, List.set_cons_succ]
                    refine wpAnyH_take (i := 11) (oi := ⟨_, _, _, _, _, _⟩) (v := ?v49) rfl (by kernel_rfl) (by kernel_rfl) (by kernel_rfl) (fun _ _ _ h => h) ?y49 hS ?_
                    case y49 => first | (refine Or.inr ⟨by rfl, ?_⟩; with_reducible rfl) | (refine Or.inl ⟨by rfl, ?_⟩; intro wS hSw; have z0S := cell_later hSw Z0.out; have z1S := cell_later hSw Z1.out; have z2S := cell_later hSw Z2.out; have s5S := cell_later hSw S5.out; have d0S := cell_later hSw D0.out; go_simp; try with_reducible rfl)
                    simp only [Act.put, List.setIfInBounds_toArray, List.set_cons_zero, List.set_cons_succ]
                    refine wpAnyH_take (i := 12) (oi := ⟨_, _, _, _, _, _⟩) (v := ?v50) rfl (by kernel_rfl) (by kernel_rfl) (by kernel_rfl) (fun _ _ _ h => h) ?y50 hS ?_
                    case y50 => first | (refine Or.inr ⟨by rfl, ?_⟩; with_reducible rfl) | (refine Or.inl ⟨by rfl, ?_⟩; intro wS hSw; have z0S := cell_later hSw Z0.out; have z1S := cell_later hSw Z1.out; have z2S := cell_later hSw Z2.out; have s5S := cell_later hSw S5.out; have d0S := cell_later hSw D0.out; go_simp; try with_reducible rfl)
                    simp only [Act.put, List.setIfInBounds_toArray, List.set_cons_zero, List.set_cons_succ]
                    refine wpAnyH_take (i := 13) (oi := ⟨_, _, _, _, _, _⟩) (v := ?v51) rfl (by kernel_rfl) (by kernel_rfl) (by kernel_rfl) (fun _ _ _ h => h) ?y51 hS ?_
                    case y51 => first | (refine Or.inr ⟨by rfl, ?_⟩; with_reducible rfl) | (refine Or.inl ⟨by rfl, ?_⟩; intro wS hSw; have z0S := cell_later hSw Z0.out; have z1S := cell_later hSw Z1.out; have z2S := cell_later hSw Z2.out; have s5S := cell_later hSw S5.out; have d0S := cell_later hSw D0.out; go_simp; try with_reducible rfl)
                    simp only [Act.put, List.setIfInBounds_toArray, List.set_cons_zero, List.set_cons_succ]
                    refine wpAnyH_take (i := 14) (oi := ⟨_, _, _, _, _, _⟩) (v := ?v52) rfl (by kernel_rfl) (by kernel_rfl) (by kernel_rfl) (fun _ _ _ h => h) ?y52 hS ?_
                    case y52 => first | (refine Or.inr ⟨by rfl, ?_⟩; with_reducible rfl) | (refine Or.inl ⟨by rfl, ?_⟩; intro wS hSw; have z0S := cell_later hSw Z0.out; have z1S := cell_later hSw Z1.out; have z2S := cell_later hSw Z2.out; have s5S := cell_later hSw S5.out; have d0S := cell_later hSw D0.out; go_simp; try with_reducible rfl)
                    simp only [Act.put, List.setIfInBounds_toArray, List.set_cons_zero, List.set_cons_succ]
                    refine wpAnyH_ready (rs := [15]) (by kernel_rfl) (by simp) ?_
                    refine AllReadyH.cons (o := ⟨_, _, _, _, _, _⟩) rfl (fun K hK => ?_) AllReadyH.nil
                    go_simp
                    refine (HM.out _ hS).mono ?_
                    rintro e wx ⟨xo, xc, rfl, -, hbx⟩
                    have hS : Below u.heap.size u wx := hS.trans (hbx.mono hS.size)
                    go_wp2_with fail
                    refine hK.out _ _ hS (fun _ => ?_)
                    clear hK K
                    try simp only [Act.put, List.setIfInBounds_toArray, List.set_cons_zero, List.set_cons_succ]
                    refine wpAnyH_take (i := 16) (oi := ⟨_, _, _, _, _, _⟩) (v := ?v53) rfl (by kernel_rfl) (by kernel_rfl) (by kernel_rfl) (fun _ _ _ h => h) ?y53 hS ?_
                    case y53 => first | (refine Or.inr ⟨by rfl, ?_⟩; with_reducible rfl) | (refine Or.inl ⟨by rfl, ?_⟩; intro wS hSw; have z0S := cell_later hSw Z0.out; have z1S := cell_later hSw Z1.out; have z2S := cell_later hSw Z2.out; have s5S := cell_later hSw S5.out; have d0S := cell_later hSw D0.out; go_simp; try with_reducible rfl)
                    simp only [Act.put, List.setIfInBounds_toArray, List.set_cons_zero, List.set_cons_succ]
                    refine wpAnyH_take (i := 17) (oi := ⟨_, _, _, _, _, _⟩) (v := ?v54) rfl (by kernel_rfl) (by kernel_rfl) (by kernel_rfl) (fun _ _ _ h => h) ?y54 hS ?_
                    case y54 => first | (refine Or.inr ⟨by rfl, ?_⟩; with_reducible rfl) | (refine Or.inl ⟨by rfl, ?_⟩; intro wS hSw; have z0S := cell_later hSw Z0.out; have z1S := cell_later hSw Z1.out; have z2S := cell_later hSw Z2.out; have s5S := cell_later hSw S5.out; have d0S := cell_later hSw D0.out; go_simp; try with_reducible rfl)
                    simp only [Act.put, List.setIfInBounds_toArray, List.set_cons_zero, List.set_cons_succ]
                    refine wpAnyH_take (i := 18) (oi := ⟨_, _, _, _, _, _⟩) (v := ?v55) rfl (by kernel_rfl) (by kernel_rfl) (by kernel_rfl) (fun _ _ _ h => h) ?y55 hS ?_
                    case y55 => first | (refine Or.inr ⟨by rfl, ?_⟩; with_reducible rfl) | (refine Or.inl ⟨by rfl, ?_⟩; intro wS hSw; have z0S := cell_later hSw Z0.out; have z1S := cell_later hSw Z1.out; have z2S := cell_later hSw Z2.out; have s5S := cell_later hSw S5.out; have d0S := cell_later hSw D0.out; go_simp; try with_reducible rfl)
                    simp only [Act.put, List.setIfInBounds_toArray, List.set_cons_zero, List.set_cons_succ]
                    refine wpAnyH_take (i := 19) (oi := ⟨_, _, _, _, _, _⟩) (v := ?v56) rfl (by kernel_rfl) (by kernel_rfl) (by kernel_rfl) (fun _ _ _ h => h) ?y56 hS ?_
                    case y56 => first | (refine Or.inr ⟨by rfl, ?_⟩; with_reducible rfl) | (refine Or.inl ⟨by rfl, ?_⟩; intro wS hSw; have z0S := cell_later hSw Z0.out; have z1S := cell_later hSw Z1.out; have z2S := cell_later hSw Z2.out; have s5S := cell_later hSw S5.out; have d0S := cell_later hSw D0.out; go_simp; try with_reducible rfl)
                    simp only [Act.put, List.setIfInBounds_toArray, List.set_cons_zero, List.set_cons_succ]
                    refine wpAnyH_take (i := 20) (oi := ⟨_, _, _, _, _, _⟩) (v := ?v57) rfl (by kernel_rfl) (by kernel_rfl) (by kernel_rfl) (fun _ _ _ h => h) ?y57 hS ?_
                    case y57 => first | (refine Or.inr ⟨by rfl, ?_⟩; with_reducible rfl) | (refine Or.inl ⟨by rfl, ?_⟩; intro wS hSw; have z0S := cell_later hSw Z0.out; have z1S := cell_later hSw Z1.out; have z2S := cell_later hSw Z2.out; have s5S := cell_later hSw S5.out; have d0S := cell_later hSw D0.out; go_simp; try with_reducible rfl)
                    simp only [Act.put, List.setIfInBounds_toArray, List.set_cons_zero, List.set_cons_succ]
                    refine wpAnyH_take (i := 21) (oi := ⟨_, _, _, _, _, _⟩) (v := ?v58) rfl (by kernel_rfl) (by kernel_rfl) (by kernel_rfl) (fun _ _ _ h => h) ?y58 hS ?_
                    case y58 => first | (refine Or.inr ⟨by rfl, ?_⟩; with_reducible rfl) | (refine Or.inl ⟨by rfl, ?_⟩; intro wS hSw; have z0S := cell_later hSw Z0.out; have z1S := cell_later hSw Z1.out; have z2S := cell_later hSw Z2.out; have s5S := cell_later hSw S5.out; have d0S := cell_later hSw D0.out; go_simp; try with_reducible rfl)
                    simp only [Act.put, List.setIfInBounds_toArray, List.set_cons_zero, List.set_cons_succ]
                    refine wpAnyH_take (i := 22) (oi := ⟨_, _, _, _, _, _⟩) (v := ?v59) rfl (by kernel_rfl) (by kernel_rfl) (by kernel_rfl) (fun _ _ _ h => h) ?y59 hS ?_
                    case y59 => first | (refine Or.inr ⟨by rfl, ?_⟩; with_reducible rfl) | (refine Or.inl ⟨by rfl, ?_⟩; intro wS hSw; have z0S := cell_later hSw Z0.out; have z1S := cell_later hSw Z1.out; have z2S := cell_later hSw Z2.out; have s5S := cell_later hSw S5.out; have d0S := cell_later hSw D0.out; go_simp; try with_reducible rfl)
                    simp only [Act.put, List.setIfInBounds_toArray, List.set_cons_zero, List.set_cons_succ]
                    refine wpAnyH_take (i := 23) (oi := ⟨_, _, _, _, _, _⟩) (v := ?v60) rfl (by kernel_rfl) (by kernel_rfl) (by kernel_rfl) (fun _ _ _ h => h) ?y60 hS ?_
                    case y60 => first | (refine Or.inr ⟨by rfl, ?_⟩; with_reducible rfl) | (refine Or.inl ⟨by rfl, ?_⟩; intro wS hSw; have z0S := cell_later hSw Z0.out; have z1S := cell_later hSw Z1.out; have z2S := cell_later hSw Z2.out; have s5S := cell_later hSw S5.out; have d0S := cell_later hSw D0.out; go_simp; try with_reducible rfl)
                    simp only [Act.put, List.setIfInBounds_toArray, List.set_cons_zero, List.set_cons_succ]
                    refine wpAnyH_take (i := 24) (oi := ⟨_, _, _, _, _, _⟩) (v := ?v61) rfl (by kernel_rfl) (by kernel_rfl) (by kernel_rfl) (fun _ _ _ h => h) ?y61 hS ?_
                    case y61 => first | (refine Or.inr ⟨by rfl, ?_⟩; with_reducible rfl) | (refine Or.inl ⟨by rfl, ?_⟩; intro wS hSw; have z0S := cell_later hSw Z0.out; have z1S := cell_later hSw Z1.out; have z2S := cell_later hSw Z2.out; have s5S := cell_later hSw S5.out; have d0S := cell_later hSw D0.out; go_simp; try with_reducible rfl)
                    simp only [Act.put, List.setIfInBounds_toArray, List.set_cons_zero, List.set_cons_succ]
                    refine wpAnyH_take (i := 25) (oi := ⟨_, _, _, _, _, _⟩) (v := ?v62) rfl (by kernel_rfl) (by kernel_rfl) (by kernel_rfl) (fun _ _ _ h => h) ?y62 hS ?_
                    case y62 => first | (refine Or.inr ⟨by rfl, ?_⟩; with_reducible rfl) | (refine Or.inl ⟨by rfl, ?_⟩; intro wS hSw; have z0S := cell_later hSw Z0.out; have z1S := cell_later hSw Z1.out; have z2S := cell_later hSw Z2.out; have s5S := cell_later hSw S5.out; have d0S := cell_later hSw D0.out; go_simp; try with_reducible rfl)
                    simp only [Act.put, List.setIfInBounds_toArray, List.set_cons_zero, List.set_cons_succ]
                    refine wpAnyH_take (i := 26) (oi := ⟨_, _, _, _, _, _⟩) (v := ?v63) rfl (by kernel_rfl) (by kernel_rfl) (by kernel_rfl) (fun _ _ _ h => h) ?y63 hS ?_
                    case y63 => first | (refine Or.inr ⟨by rfl, ?_⟩; with_reducible rfl) | (refine Or.inl ⟨by rfl, ?_⟩; intro wS hSw; have z0S := cell_later hSw Z0.out; have z1S := cell_later hSw Z1.out; have z2S := cell_later hSw Z2.out; have s5S := cell_later hSw S5.out; have d0S := cell_later hSw D0.out; go_simp; try with_reducible rfl)
                    simp only [Act.put, List.setIfInBounds_toArray, List.set_cons_zero, List.set_cons_succ]
                    refine wpAnyH_take (i := 27) (oi := ⟨_, _, _, _, _, _⟩) (v := ?v64) rfl (by kernel_rfl) (by kernel_rfl) (by kernel_rfl) (fun _ _ _ h => h) ?y64 hS ?_
                    case y64 => first | (refine Or.inr ⟨by rfl, ?_⟩; with_reducible rfl) | (refine Or.inl ⟨by rfl, ?_⟩; intro wS hSw; have z0S := cell_later hSw Z0.out; have z1S := cell_later hSw Z1.out; have z2S := cell_later hSw Z2.out; have s5S := cell_later hSw S5.out; have d0S := cell_later hSw D0.out; go_simp; try with_reducible rfl)
                    simp only [Act.put, List.setIfInBounds_toArray, List.set_cons_zero, List.set_cons_succ]
                    refine wpAnyH_take (i := 28) (oi := ⟨_, _, _, _, _, _⟩) (v := ?v65) rfl (by kernel_rfl) (by kernel_rfl) (by kernel_rfl) (fun _ _ _ h => h) ?y65 hS ?_
                    case y65 => first | (refine Or.inr ⟨by rfl, ?_⟩; with_reducible rfl) | (refine Or.inl ⟨by rfl, ?_⟩; intro wS hSw; have z0S := cell_later hSw Z0.out; have z1S := cell_later hSw Z1.out; have z2S := cell_later hSw Z2.out; have s5S := cell_later hSw S5.out; have d0S := cell_later hSw D0.out; go_simp; try with_reducible rfl)
                    simp only [Act.put, List.setIfInBounds_toArray, List.set_cons_zero, List.set_cons_succ]
                    refine wpAnyH_take (i := 29) (oi := ⟨_, _, _, _, _, _⟩) (v := ?v66) rfl (by kernel_rfl) (by kernel_rfl) (by kernel_rfl) (fun _ _ _ h => h) ?y66 hS ?_
                    case y66 => first | (refine Or.inr ⟨by rfl, ?_⟩; with_reducible rfl) | (refine Or.inl ⟨by rfl, ?_⟩; intro wS hSw; have z0S := cell_later hSw Z0.out; have z1S := cell_later hSw Z1.out; have z2S := cell_later hSw Z2.out; have s5S := cell_later hSw S5.out; have d0S := cell_later hSw D0.out; go_simp; try with_reducible rfl)
                    simp only [Act.put, List.setIfInBounds_toArray, List.set_cons_zero, List.set_cons_succ]
                    refine wpAnyH_take (i := 30) (oi := ⟨_, _, _, _, _, _⟩) (v := ?v67) rfl (by kernel_rfl) (by kernel_rfl) (by kernel_rfl) (fun _ _ _ h => h) ?y67 hS ?_
                    case y67 => first | (refine Or.inr ⟨by rfl, ?_⟩; with_reducible rfl) | (refine Or.inl ⟨by rfl, ?_⟩; intro wS hSw; have z0S := cell_later hSw Z0.out; have z1S := cell_later hSw Z1.out; have z2S := cell_later hSw Z2.out; have s5S := cell_later hSw S5.out; have d0S := cell_later hSw D0.out; go_simp; try with_reducible rfl)
                    simp only [Act.put, List.setIfInBounds_toArray, List.set_cons_zero, List.set_cons_succ]
                    refine wpAnyH_take (i := 31) (oi := ⟨_, _, _, _, _, _⟩) (v := ?v68) rfl (by kernel_rfl) (by kernel_rfl) (by kernel_rfl) (fun _ _ _ h => h) ?y68 hS ?_
                    case y68 => first | (refine Or.inr ⟨by rfl, ?_⟩; with_reducible rfl) | (refine Or.inl ⟨by rfl, ?_⟩; intro wS hSw; have z0S := cell_later hSw Z0.out; have z1S := cell_later hSw Z1.out; have z2S := cell_later hSw Z2.out; have s5S := cell_later hSw S5.out; have d0S := cell_later hSw D0.out; go_simp; try with_reducible rfl)
                    simp only [Act.put, List.setIfInBounds_toArray, List.set_cons_zero, List.set_cons_succ]
                    refine wpAnyH_take (i := 32) (oi := ⟨_, _, _, _, _, _⟩) (v := ?v69) rfl (by kernel_rfl) (by kernel_rfl) (by kernel_rfl) (fun _ _ _ h => h) ?y69 hS ?_
                    case y69 => first | (refine Or.inr ⟨by rfl, ?_⟩; with_reducible rfl) | (refine Or.inl ⟨by rfl, ?_⟩; intro wS hSw; have z0S := cell_later hSw Z0.out; have z1S := cell_later hSw Z1.out; have z2S := cell_later hSw Z2.out; have s5S := cell_later hSw S5.out; have d0S := cell_later hSw D0.out; go_simp; try with_reducible rfl)
                    simp only [Act.put, List.setIfInBounds_toArray, List.set_cons_zero, List.set_cons_succ]
                    refine wpAnyH_take (i := 33) (oi := ⟨_, _, _, _, _, _⟩) (v := ?v70) rfl (by kernel_rfl) (by kernel_rfl) (by kernel_rfl) (fun _ _ _ h => h) ?y70 hS ?_
                    case y70 => first | (refine Or.inr ⟨by rfl, ?_⟩; with_reducible rfl) | (refine Or.inl ⟨by rfl, ?_⟩; intro wS hSw; have z0S := cell_later hSw Z0.out; have z1S := cell_later hSw Z1.out; have z2S := cell_later hSw Z2.out; have s5S := cell_later hSw S5.out; have d0S := cell_later hSw D0.out; go_simp; try with_reducible rfl)
                    simp only [Act.put, List.setIfInBounds_toArray, List.set_cons_zero, List.set_cons_succ]
                    refine wpAnyH_take (i := 34) (oi := ⟨_, _, _, _, _, _⟩) (v := ?v71) rfl (by kernel_rfl) (by kernel_rfl) (by kernel_rfl) (fun _ _ _ h => h) ?y71 hS ?_
                    case y71 => first | (refine Or.inr ⟨by rfl, ?_⟩; with_reducible rfl) | (refine Or.inl ⟨by rfl, ?_⟩; intro wS hSw; have z0S := cell_later hSw Z0.out; have z1S := cell_later hSw Z1.out; have z2S := cell_later hSw Z2.out; have s5S := cell_later hSw S5.out; have d0S := cell_later hSw D0.out; go_simp; try with_reducible rfl)
                    simp only [Act.put, List.setIfInBounds_toArray, List.set_cons_zero, List.set_cons_succ]
                    refine wpAnyH_take (i := 35) (oi := ⟨_, _, _, _, _, _⟩) (v := ?v72) rfl (by kernel_rfl) (by kernel_rfl) (by kernel_rfl) (fun _ _ _ h => h) ?y72 hS ?_
                    case y72 => first | (refine Or.inr ⟨by rfl, ?_⟩; with_reducible rfl) | (refine Or.inl ⟨by rfl, ?_⟩; intro wS hSw; have z0S := cell_later hSw Z0.out; have z1S := cell_later hSw Z1.out; have z2S := cell_later hSw Z2.out; have s5S := cell_later hSw S5.out; have d0S := cell_later hSw D0.out; go_simp; try with_reducible rfl)
                    simp only [Act.put, List.setIfInBounds_toArray, List.set_cons_zero, List.set_cons_succ]
                    refine wpAnyH_take (i := 36) (oi := ⟨_, _, _, _, _, _⟩) (v := ?v73) rfl (by kernel_rfl) (by kernel_rfl) (by kernel_rfl) (fun _ _ _ h => h) ?y73 hS ?_
                    case y73 => first | (refine Or.inr ⟨by rfl, ?_⟩; with_reducible rfl) | (refine Or.inl ⟨by rfl, ?_⟩; intro wS hSw; have z0S := cell_later hSw Z0.out; have z1S := cell_later hSw Z1.out; have z2S := cell_later hSw Z2.out; have s5S := cell_later hSw S5.out; have d0S := cell_later hSw D0.out; go_simp; try with_reducible rfl)
                    simp only [Act.put, List.setIfInBounds_toArray, List.set_cons_zero, List.set_cons_succ]
                    refine wpAnyH_take (i := 37) (oi := ⟨_, _, _, _, _, _⟩) (v := ?v74) rfl (by kernel_rfl) (by kernel_rfl) (by kernel_rfl) (fun _ _ _ h => h) ?y74 hS ?_
                    case y74 => first | (refine Or.inr ⟨by rfl, ?_⟩; with_reducible rfl) | (refine Or.inl ⟨by rfl, ?_⟩; intro wS hSw; have z0S := cell_later hSw Z0.out; have z1S := cell_later hSw Z1.out; have z2S := cell_later hSw Z2.out; have s5S := cell_later hSw S5.out; have d0S := cell_later hSw D0.out; go_simp; try with_reducible rfl)
                    simp only [Act.put, List.setIfInBounds_toArray, List.set_cons_zero, List.set_cons_succ]
                    refine wpAnyH_done (by kernel_rfl) ?_ _
                    go_wp2_with fail
                    have HS := Lib.hid (HBu.out.trans (hS.mono HBu.out.size))
                    have Z0x := Lib.hid (cell_later hS Z0.out)
                    clear hS
                    have z0 := Z0x.out
                    go_meet
                    exact ⟨rfl, HS.out, z0⟩
                case rest =>
                  obtain ⟨rfl, hbc, hz0⟩ := hcut
                  have HBc := Lib.hid hbc
                  clear hbc
                  have hb1 : ∀ jx, jx + 1 < i + 1 → jx + 1 < i ∨ jx = j := fun jx hx => by have := Hj.out; omega
                  have HB1 := Lib.hid hb1
                  clear hb1
                  cases bb with
                  | false =>
                    go_wp2_with fail
                    go_roundw
                    case rel => exact ⟨false, i + 1, by omega, HHlt.out, rfl, by go_num, fun h => by simp at h, HBc.out⟩
                    case measure => have := HHlt.out; simp [intOf]; omega
                  | true =>
                    by_cases hp0 : 0 ≤ (atA l j).en
                    · have qp : decide (0 ≤ (atA l j).en) = true := by simpa using hp0
                      by_cases hpn : (atA l j).en ≤ nn
                      · have qn : decide ((atA l j).en ≤ nn) = true := by simpa using hpn
                        have Hpp := Lib.hid (show 0 ≤ (atA l j).en ∧ (atA l j).en ≤ nn from ⟨hp0, hpn⟩)
                        clear hp0 hpn
                        go_wp2_with fail
                        go_roundw
                        case rel => exact ⟨true, i + 1, by omega, HHlt.out, rfl, by go_num, fun _ jx hx => (HB1.out jx hx).elim (Hbd.out rfl jx) (fun e => by rw [e]; exact Hpp.out), HBc.out⟩
                        case measure => have := HHlt.out; simp [intOf]; omega
                      · have qn : decide ((atA l j).en ≤ nn) = false := by simpa using hpn
                        clear hp0 hpn
                        go_wp2_with fail
                        go_roundw
                        case rel => exact ⟨false, i + 1, by omega, HHlt.out, rfl, by go_num, fun h => by simp at h, HBc.out⟩
                        case measure => have := HHlt.out; simp [intOf]; omega
                    · have qp : decide (0 ≤ (atA l j).en) = false := by simpa using hp0
                      clear hp0
                      go_wp2_with fail
                      go_roundw
                      case rel => exact ⟨false, i + 1, by omega, HHlt.out, rfl, by go_num, fun h => by simp at h, HBc.out⟩
                      case measure => have := HHlt.out; simp [intOf]; omega
              · have hlt' : ¬ (i : Int) < T1 := by omega
                have hiT := Lib.hid (show i = T1 by omega)
                have hle : bb = true → (T1 : Int) ≤ nn + 2 := fun hb => by
                  have h1 := Hbd.out hb
                  have h2 := HT1.out
                  have h3 := hiT.out
                  have h4 := Hn0.out
                  by_cases h0 : T = 0
                  · omega
                  · have h5 := h1 (T - 1) (by omega)
                    have h6 := ends_up HT.out (fun h => (h1 0 (by omega)).1) (T - 1) (by omega)
                    omega
                have HLe := Lib.hid hle
                have HBr := Lib.hid (HB8.out.trans (Hbel.out.mono HB8.out.size))
                have HXr := Lib.hid ((Hbel.out.block _ (lt_of_block HX8.out)).trans HX8.out)
                obtain ⟨x0, x1, x2, x3, -⟩ := four_box HXr.out
                have hT1 := HT1.out
                have hTz := HTl.out
                have hl := Hl.out
                have hz := Hz.out
                have hn0 := Hn0.out
                have hw8 : IntKind.i64.wrap ((T1 : Int) - 1) = (T : Int) := (IntWalk.i64_in _ (by omega)).trans (by omega)
                have hwn : IntKind.i64.wrap (nn + 2) = nn + 2 := IntWalk.i64_in _ (by omega)
                have hTT : (T : Int) < (T1 : Int) := by omega
                obtain ⟨rb', ro', he, c0, -, -⟩ := rd_cells HRr.out T (by omega)
                simp only [Option.some.injEq, Addr.mk.injEq, and_true] at he
                obtain ⟨rfl, rfl⟩ := he
                have hRd : 0 < T → (rdA l lev T).1 = ee := fun h => by
                  rw [Hee.out]; unfold rdA lastEn; rw [if_neg (by omega), if_neg (by omega)]
                have HRd := Lib.hid hRd
                generalize (rdA l lev T).1 = re at *
                clear hT1 hTz hl hz hn0 hlt hi hi1 hRd hle
                go_upto_region 23 with (fail)
                go_cut [182] (fun t182 w1 => t182 = .bool false ∧ Below wr.heap.size wr w1)
                case first =>
                  by_cases h0 : 0 < T
                  · have htb : tb = true := by rw [Htb.out]; simpa using h0
                    have hre := HRd.out h0
                    rw [htb] at x0
                    rw [hre] at c0
                    clear h0 htb hre
                    cases bb with
                    | false =>
                      go_region
                      all_goals go_wp2_with fail
                      all_goals go_meet
                      all_goals exact ⟨rfl, (Below.refl _ _).drew⟩
                    | true =>
                      have hq : decide (nn + 2 < (T1 : Int)) = false := by have := HLe.out rfl; simp; omega
                      go_region
                      all_goals go_wp2_with fail
                      all_goals go_meet
                      all_goals exact ⟨rfl, (Below.refl _ _).drew⟩
                  · have htb : tb = false := by rw [Htb.out]; simpa using h0
                    rw [htb] at x0
                    clear h0 htb
                    cases bb with
                    | false =>
                      go_region
                      all_goals go_wp2_with fail
                      all_goals go_meet
                      all_goals exact ⟨rfl, (Below.refl _ _).drew⟩
                    | true =>
                      have hq : decide (nn + 2 < (T1 : Int)) = false := by have := HLe.out rfl; simp; omega
                      go_region
                      all_goals go_wp2_with fail
                      all_goals go_meet
                      all_goals exact ⟨rfl, (Below.refl _ _).drew⟩
                case rest =>
                  obtain ⟨rfl, hbc⟩ := hcut
                  have HBc := Lib.hid (HBr.out.trans (hbc.mono HBr.out.size))
                  have HXc := Lib.hid ((hbc.block _ (lt_of_block HXr.out)).trans HXr.out)
                  have q43 := an_field0
                  clear hbc x0 x1 x2 x3 c0 s5 HBr HXr
                  go_wp2_with fail
                  refine (at_lit _ l T wc (HA.out.later HBc.out)).mono ?_
                  rintro e w9 ⟨xo, xc, rfl, -, hb9⟩
                  have HB9 := Lib.hid (HBc.out.trans (hb9.mono HBc.out.size))
                  have HX9 := Lib.hid ((hb9.block _ (lt_of_block HXc.out)).trans HXc.out)
                  clear hb9
                  go_upto_region 26 with (fail)
                  refine gen_world (S := fun u => Below w9.heap.size w9 u ∧ u.heap[w9.heap.size]? = some (.cells #[.bool (atA l T).is, .int .i64 (atA l T).en, .int .i64 (atA l T).far, .slice xo (atA l T).tree.length xc] 38 (0, 0))) (one_new w9 _) (fun ux hu => ?_)
                  obtain ⟨hbx, hx⟩ := hu
                  have HBx := Lib.hid (HB9.out.trans (hbx.mono HB9.out.size))
                  obtain ⟨x0, x1, x2, x3, -⟩ := four_box ((hbx.block _ (lt_of_block HX9.out)).trans HX9.out)
                  obtain ⟨y0, y1, y2, y3, -⟩ := four_box hx
                  obtain ⟨Y, hY⟩ : ∃ Y, Y = w9.heap.size := ⟨_, rfl⟩
                  rw [← hY] at y0 y1 y2 y3 ⊢
                  clear hbx hx hY
                  cases his : (atA l T).is with
                  | false =>
                    rw [his] at y0
                    clear his
                    go_wp2
                    go_ret
                    exact ⟨rfl, HBx.out⟩
                  | true =>
                    rw [his] at y0
                    have hno : 0 < T ∧ (atA l T).en ≤ ee := by
                      have h1 := HT.out.2
                      by_cases h0 : T = 0
                      · exact absurd ⟨HTe.out, his, .inl h0⟩ h1
                      · refine ⟨by omega, ?_⟩
                        rw [Hee.out]
                        unfold lastEn
                        rw [if_neg h0]
                        rcases Int.lt_or_le (atA l (T - 1)).en (atA l T).en with h2 | h2
                        · exact absurd ⟨HTe.out, his, .inr h2⟩ h1
                        · exact h2
                    have hq1 : decide ((1 : Int) < (T1 : Int)) = true := by have := hno.1; have := HT1.out; simp; omega
                    have hq2 : decide (1 < T1) = true := by have := hno.1; have := HT1.out; simp; omega
                    have hq3 : decide ((atA l T).en ≤ ee) = true := by simpa using hno.2
                    clear his hno
                    go_wp2
                    go_ret
                    exact ⟨rfl, HBx.out⟩
  · have hg : decide (200 < n) = true := by simpa using h200
    have hg2 : 200 < n := by omega
    clear h200
    go_wp2
    go_ret
    exact ⟨rfl, HB2.out⟩
end Go.Proofs.Ytebgleehmgmfbaa
