/-
  Are the trees as they were? They are written over.
-/
import Derived.Test.YtebgleehmgmfbaaRefH
namespace Go.Proofs.Ytebgleehmgmfbaa
open Go.RowKit Go.Lib

theorem treesA_at {l : List An} {gl : List Lnt} {n : Nat} (h : gl.map (·.2) = treesA l n) (i : Nat) (hi : i < gl.length) : (gl[i]).2 = (atA l i).tree := by
  have hl : gl.length = n := by have := congrArg List.length h; simpa [treesA] using this
  have : (gl.map (·.2))[i]? = (treesA l n)[i]? := by rw [h]
  have hin : i < n := by omega
  simpa [treesA, hi, hin] using this
theorem lnt_one (gl : List Lnt) : ∀ u ∈ gl.map lntv, u.oneCell' = true := by intro u hu; simp at hu; obtain ⟨a, b, -, rfl⟩ := hu; rfl

set_option maxRecDepth 100000 in
set_option maxHeartbeats 4000000 in
theorem kept_any [Watch] {base sb s : Nat} {p : Pr} {lev : Int} {av rv lv : Value} {rds : List Rd} {gl : List Lnt} {ok : Bool} {l : List An} {n : Nat} (w : World)
    (hc : ScIs base w sb s p lev av rv lv rds gl ok) (ha : AnsAt w av l) (htr : gl.map (·.2) = treesA l n) (ht : ∀ n, (atA l n).tree.length ≤ 1000000) :
    Calls Try.prog 15 #[.pointer (some ⟨sb, 0, none⟩)] w fun e w' => e = .returned (.bool true) ∧ Keeps (fun k => k ∈ gl.map (·.1)) w w' := by
  obtain ⟨aao, acap, rfl⟩ := ha.val
  obtain ⟨lao, lcap, rfl⟩ := own_val hc.lnt
  have hle : gl.length < 1000000 := by have := hc.le2; omega
  have HLC := Lib.hid (show ∀ i (hi : i < gl.length), ∃ b off, lao = some ⟨b, off, none⟩ ∧ w.cell? ⟨b, off + i, none⟩ = some (lntv gl[i]) from fun i hi => by
    obtain ⟨ao', b, off, cap', hv, -, -, -, ha, -, hcc⟩ := own_cells (lnt_one gl) hc.lnt
    simp only [Value.slice.injEq] at hv
    obtain ⟨rfl, -, rfl⟩ := hv
    refine ⟨b, off, ha (by simp; omega), ?_⟩
    have := hcc i (by simpa using hi)
    rw [List.getElem_map] at this
    exact this)
  have HA0 := Lib.hid (fun (i : Nat) (wq : World) (hb : Below w.heap.size w wq) => at_any _ l i wq (ha.later hb))
  have HK := Lib.hid (fun (wq : World) (hb : Below w.heap.size w wq) (i : Nat) (hi : i < gl.length) => keptTwigs_any (atA l i).v (atA l i).tree gl[i].1 wq ((atA_tw ha i).later hb) (by rw [← treesA_at htr i hi]; exact (hc.lents _ (List.getElem_mem hi)).later hb) (ht i))
  have HE := Lib.hid (fun (i : Nat) (hi : i < gl.length) => treesA_at htr i hi)
  have HW := Lib.hid (fun (i : Nat) => (atA_tw ha i).val)
  have HC := Lib.hid hc
  have HT := Lib.hid ht
  obtain ⟨z, hz⟩ : ∃ z, z = l.length := ⟨_, rfl⟩
  rw [← hz] at HA0 HC
  obtain ⟨k, hk⟩ : ∃ k, k = gl.length := ⟨_, rfl⟩
  have HKl := Lib.hid hk
  rw [← hk] at HC hle
  clear hc ha htr ht hz hk
  obtain ⟨-, -, -, -, c4, -, c6, -⟩ := HC.out.cells
  go_enter Try.func15, Try.ntmps15
  go_wp2
  go_loopw [3] (fun v3 wr => ∃ i : Nat, i ≤ k ∧ v3 = .int .i64 i ∧ Below w.heap.size w wr) (fun i _ => k - (intOf i).toNat)
  case atStart => exact ⟨0, Nat.zero_le _, rfl, Below.refl _ _⟩
  case round =>
    obtain ⟨i, hi, rfl, hbel⟩ := hrel
    have Hbel := Lib.hid hbel
    obtain ⟨-, -, -, -, c4, -, c6, -⟩ := (HC.out.later hbel).cells
    clear hbel
    by_cases hlt : i < k
    · have hlt' : (i : Int) < k := by omega
      obtain ⟨lb, lo, rfl, l0⟩ := HLC.out i (by rw [← HKl.out]; exact hlt)
      have L0 := Lib.hid l0
      have hlt := Lib.hid (show i < gl.length by rw [← HKl.out]; exact hlt)
      have HAi := Lib.hid (fun (wq : World) (hb : Below w.heap.size w wq) => HA0.out i wq hb)
      obtain ⟨xo, xc, hxv⟩ := HW.out i
      have hav : anv (atA l i) = .agg #[.bool (atA l i).is, .int .i64 (atA l i).en, .int .i64 (atA l i).far, .slice xo (atA l i).tree.length xc, .int .i64 (atA l i).err] := by unfold anv; rw [hxv]
      rw [hav] at HAi
      have he := HE.out i hlt.out
      have HKi := Lib.hid (fun (wq : World) (hb : Below w.heap.size w wq) => HK.out wq hb i hlt.out)
      rw [hxv] at HKi
      obtain ⟨g, hg⟩ : ∃ g, g = (gl[i]'hlt.out).1 := ⟨_, rfl⟩
      unfold lntv at L0
      rw [he, ← hg] at L0
      rw [← hg] at HKi
      obtain ⟨n, hn⟩ : ∃ n, n = (atA l i).tree.length := ⟨_, rfl⟩
      rw [← hn] at L0 HKi HAi
      have hl2 := Lib.hid hlt'
      have Hlt := Lib.hid (show i < k from by rw [HKl.out]; exact hlt.out)
      clear hn hg he hav hxv l0
      have q43 := an_field0
      have q44 := fo_field3
      go_upto_region 4 with (fail)
      clear c4 c6
      refine wp_region_held_drew (S := fun wq => Below w.heap.size w wq) (by kernel_rfl) (Hbel.out.drew) (fun hS => ?_)
      refine wpAnyH_take (i := 0) (oi := ⟨_, _, _, _, _, _⟩) (v := ?v1) rfl (by kernel_rfl) (by kernel_rfl) (by kernel_rfl) (fun _ _ _ h => h) ?y1 hS ?_
      case y1 => first | (refine Or.inr ⟨by rfl, ?_⟩; with_reducible rfl) | (refine Or.inl ⟨by rfl, ?_⟩; intro wS hSw; obtain ⟨-, -, -, -, c4S, -, c6S, -⟩ := (HC.out.later hSw).cells; have l0S := cell_later hSw L0.out; go_simp; try with_reducible rfl)
      simp only [Act.put, List.setIfInBounds_toArray, List.set_cons_zero, List.set_cons_succ]
      refine wpAnyH_take (i := 1) (oi := ⟨_, _, _, _, _, _⟩) (v := ?v2) rfl (by kernel_rfl) (by kernel_rfl) (by kernel_rfl) (fun _ _ _ h => h) ?y2 hS ?_
      case y2 => first | (refine Or.inr ⟨by rfl, ?_⟩; with_reducible rfl) | (refine Or.inl ⟨by rfl, ?_⟩; intro wS hSw; obtain ⟨-, -, -, -, c4S, -, c6S, -⟩ := (HC.out.later hSw).cells; have l0S := cell_later hSw L0.out; go_simp; try with_reducible rfl)
      simp only [Act.put, List.setIfInBounds_toArray, List.set_cons_zero, List.set_cons_succ]
      refine wpAnyH_take (i := 2) (oi := ⟨_, _, _, _, _, _⟩) (v := ?v3) rfl (by kernel_rfl) (by kernel_rfl) (by kernel_rfl) (fun _ _ _ h => h) ?y3 hS ?_
      case y3 => first | (refine Or.inr ⟨by rfl, ?_⟩; with_reducible rfl) | (refine Or.inl ⟨by rfl, ?_⟩; intro wS hSw; obtain ⟨-, -, -, -, c4S, -, c6S, -⟩ := (HC.out.later hSw).cells; have l0S := cell_later hSw L0.out; go_simp; try with_reducible rfl)
      simp only [Act.put, List.setIfInBounds_toArray, List.set_cons_zero, List.set_cons_succ]
      refine wpAnyH_take (i := 3) (oi := ⟨_, _, _, _, _, _⟩) (v := ?v4) rfl (by kernel_rfl) (by kernel_rfl) (by kernel_rfl) (fun _ _ _ h => h) ?y4 hS ?_
      case y4 => first | (refine Or.inr ⟨by rfl, ?_⟩; with_reducible rfl) | (refine Or.inl ⟨by rfl, ?_⟩; intro wS hSw; obtain ⟨-, -, -, -, c4S, -, c6S, -⟩ := (HC.out.later hSw).cells; have l0S := cell_later hSw L0.out; go_simp; try with_reducible rfl)
      simp only [Act.put, List.setIfInBounds_toArray, List.set_cons_zero, List.set_cons_succ]
      refine wpAnyH_take (i := 4) (oi := ⟨_, _, _, _, _, _⟩) (v := ?v5) rfl (by kernel_rfl) (by kernel_rfl) (by kernel_rfl) (fun _ _ _ h => h) ?y5 hS ?_
      case y5 => first | (refine Or.inr ⟨by rfl, ?_⟩; with_reducible rfl) | (refine Or.inl ⟨by rfl, ?_⟩; intro wS hSw; obtain ⟨-, -, -, -, c4S, -, c6S, -⟩ := (HC.out.later hSw).cells; have l0S := cell_later hSw L0.out; go_simp; try with_reducible rfl)
      simp only [Act.put, List.setIfInBounds_toArray, List.set_cons_zero, List.set_cons_succ]
      refine wpAnyH_take (i := 5) (oi := ⟨_, _, _, _, _, _⟩) (v := ?v6) rfl (by kernel_rfl) (by kernel_rfl) (by kernel_rfl) (fun _ _ _ h => h) ?y6 hS ?_
      case y6 => first | (refine Or.inr ⟨by rfl, ?_⟩; with_reducible rfl) | (refine Or.inl ⟨by rfl, ?_⟩; intro wS hSw; obtain ⟨-, -, -, -, c4S, -, c6S, -⟩ := (HC.out.later hSw).cells; have l0S := cell_later hSw L0.out; go_simp; try with_reducible rfl)
      simp only [Act.put, List.setIfInBounds_toArray, List.set_cons_zero, List.set_cons_succ]
      refine wpAnyH_take (i := 6) (oi := ⟨_, _, _, _, _, _⟩) (v := ?v7) rfl (by kernel_rfl) (by kernel_rfl) (by kernel_rfl) (fun _ _ _ h => h) ?y7 hS ?_
      case y7 => first | (refine Or.inr ⟨by rfl, ?_⟩; with_reducible rfl) | (refine Or.inl ⟨by rfl, ?_⟩; intro wS hSw; obtain ⟨-, -, -, -, c4S, -, c6S, -⟩ := (HC.out.later hSw).cells; have l0S := cell_later hSw L0.out; go_simp; try with_reducible rfl)
      simp only [Act.put, List.setIfInBounds_toArray, List.set_cons_zero, List.set_cons_succ]
      refine wpAnyH_take (i := 7) (oi := ⟨_, _, _, _, _, _⟩) (v := ?v8) rfl (by kernel_rfl) (by kernel_rfl) (by kernel_rfl) (fun _ _ _ h => h) ?y8 hS ?_
      case y8 => first | (refine Or.inr ⟨by rfl, ?_⟩; with_reducible rfl) | (refine Or.inl ⟨by rfl, ?_⟩; intro wS hSw; obtain ⟨-, -, -, -, c4S, -, c6S, -⟩ := (HC.out.later hSw).cells; have l0S := cell_later hSw L0.out; go_simp; try with_reducible rfl)
      simp only [Act.put, List.setIfInBounds_toArray, List.set_cons_zero, List.set_cons_succ]
      refine wpAnyH_take (i := 8) (oi := ⟨_, _, _, _, _, _⟩) (v := ?v9) rfl (by kernel_rfl) (by kernel_rfl) (by kernel_rfl) (fun _ _ _ h => h) ?y9 hS ?_
      case y9 => first | (refine Or.inr ⟨by rfl, ?_⟩; with_reducible rfl) | (refine Or.inl ⟨by rfl, ?_⟩; intro wS hSw; obtain ⟨-, -, -, -, c4S, -, c6S, -⟩ := (HC.out.later hSw).cells; have l0S := cell_later hSw L0.out; go_simp; try with_reducible rfl)
      simp only [Act.put, List.setIfInBounds_toArray, List.set_cons_zero, List.set_cons_succ]
      refine wpAnyH_take (i := 9) (oi := ⟨_, _, _, _, _, _⟩) (v := ?v10) rfl (by kernel_rfl) (by kernel_rfl) (by kernel_rfl) (fun _ _ _ h => h) ?y10 hS ?_
      case y10 => first | (refine Or.inr ⟨by rfl, ?_⟩; with_reducible rfl) | (refine Or.inl ⟨by rfl, ?_⟩; intro wS hSw; obtain ⟨-, -, -, -, c4S, -, c6S, -⟩ := (HC.out.later hSw).cells; have l0S := cell_later hSw L0.out; go_simp; try with_reducible rfl)
      simp only [Act.put, List.setIfInBounds_toArray, List.set_cons_zero, List.set_cons_succ]
      refine wpAnyH_take (i := 10) (oi := ⟨_, _, _, _, _, _⟩) (v := ?v11) rfl (by kernel_rfl) (by kernel_rfl) (by kernel_rfl) (fun _ _ _ h => h) ?y11 hS ?_
      case y11 => first | (refine Or.inr ⟨by rfl, ?_⟩; with_reducible rfl) | (refine Or.inl ⟨by rfl, ?_⟩; intro wS hSw; obtain ⟨-, -, -, -, c4S, -, c6S, -⟩ := (HC.out.later hSw).cells; have l0S := cell_later hSw L0.out; go_simp; try with_reducible rfl)
      simp only [Act.put, List.setIfInBounds_toArray, List.set_cons_zero, List.set_cons_succ]
      refine wpAnyH_take (i := 11) (oi := ⟨_, _, _, _, _, _⟩) (v := ?v12) rfl (by kernel_rfl) (by kernel_rfl) (by kernel_rfl) (fun _ _ _ h => h) ?y12 hS ?_
      case y12 => first | (refine Or.inr ⟨by rfl, ?_⟩; with_reducible rfl) | (refine Or.inl ⟨by rfl, ?_⟩; intro wS hSw; obtain ⟨-, -, -, -, c4S, -, c6S, -⟩ := (HC.out.later hSw).cells; have l0S := cell_later hSw L0.out; go_simp; try with_reducible rfl)
      simp only [Act.put, List.setIfInBounds_toArray, List.set_cons_zero, List.set_cons_succ]
      refine wpAnyH_ready (rs := [12]) (by kernel_rfl) (by simp) ?_
      refine AllReadyH.cons (o := ⟨_, _, _, _, _, _⟩) rfl (fun K hK => ?_) AllReadyH.nil
      go_simp
      refine (HAi.out _ hS).mono ?_
      rintro e wx ⟨rfl, hbx⟩
      have hS : Below w.heap.size w wx := hS.trans (hbx.mono hS.size)
      go_wp2_with fail
      refine hK.out _ _ hS (fun _ => ?_)
      clear hK K
      try simp only [Act.put, List.setIfInBounds_toArray, List.set_cons_zero, List.set_cons_succ]
      refine wpAnyH_take (i := 13) (oi := ⟨_, _, _, _, _, _⟩) (v := ?v13) rfl (by kernel_rfl) (by kernel_rfl) (by kernel_rfl) (fun _ _ _ h => h) ?y13 hS ?_
      case y13 => first | (refine Or.inr ⟨by rfl, ?_⟩; with_reducible rfl) | (refine Or.inl ⟨by rfl, ?_⟩; intro wS hSw; obtain ⟨-, -, -, -, c4S, -, c6S, -⟩ := (HC.out.later hSw).cells; have l0S := cell_later hSw L0.out; go_simp; try with_reducible rfl)
      simp only [Act.put, List.setIfInBounds_toArray, List.set_cons_zero, List.set_cons_succ]
      refine wpAnyH_take (i := 14) (oi := ⟨_, _, _, _, _, _⟩) (v := ?v14) rfl (by kernel_rfl) (by kernel_rfl) (by kernel_rfl) (fun _ _ _ h => h) ?y14 hS ?_
      case y14 => first | (refine Or.inr ⟨by rfl, ?_⟩; with_reducible rfl) | (refine Or.inl ⟨by rfl, ?_⟩; intro wS hSw; obtain ⟨-, -, -, -, c4S, -, c6S, -⟩ := (HC.out.later hSw).cells; have l0S := cell_later hSw L0.out; go_simp; try with_reducible rfl)
      simp only [Act.put, List.setIfInBounds_toArray, List.set_cons_zero, List.set_cons_succ]
      refine wpAnyH_ready (rs := [15]) (by kernel_rfl) (by simp) ?_
      refine AllReadyH.cons (o := ⟨_, _, _, _, _, _⟩) rfl (fun K hK => ?_) AllReadyH.nil
      go_simp
      refine (HKi.out _ hS).mono ?_
      rintro e wx ⟨rfl, hbx⟩
      have hS : Below w.heap.size w wx := hS.trans (hbx.mono hS.size)
      go_wp2_with fail
      refine hK.out _ _ hS (fun _ => ?_)
      clear hK K
      try simp only [Act.put, List.setIfInBounds_toArray, List.set_cons_zero, List.set_cons_succ]
      refine wpAnyH_take (i := 16) (oi := ⟨_, _, _, _, _, _⟩) (v := ?v15) rfl (by kernel_rfl) (by kernel_rfl) (by kernel_rfl) (fun _ _ _ h => h) ?y15 hS ?_
      case y15 => first | (refine Or.inr ⟨by rfl, ?_⟩; with_reducible rfl) | (refine Or.inl ⟨by rfl, ?_⟩; intro wS hSw; obtain ⟨-, -, -, -, c4S, -, c6S, -⟩ := (HC.out.later hSw).cells; have l0S := cell_later hSw L0.out; go_simp; try with_reducible rfl)
      simp only [Act.put, List.setIfInBounds_toArray, List.set_cons_zero, List.set_cons_succ]
      refine wpAnyH_done (by kernel_rfl) ?_ _
      go_wp2_with fail
      have HS := Lib.hid hS
      clear hS
      go_wp2_with fail
      go_roundw
      case rel => exact ⟨i + 1, Hlt.out, by go_num, HS.out⟩
      case measure => have := Hlt.out; simp [intOf]; omega
    · have hlt' : ¬ (i : Int) < k := by omega
      clear hlt hi c4
      go_wp2
      go_loopw [4] (fun v4 w2 => ∃ j : Nat, j ≤ k ∧ v4 = .int .i64 j ∧ KeepT 0 [60] false w w2 ∧ Keeps (fun b => b ∈ (gl.take j).map (·.1)) w w2) (fun i _ => k - (intOf i).toNat)
      case atStart => exact ⟨0, Nat.zero_le _, rfl, KeepT.ofBelow Hbel.out, Keeps.ofNew Hbel.out _⟩
      case round =>
        obtain ⟨j, hj, rfl, hkt, hks⟩ := hrel
        have c6 := (block_cell' (hkt.cells HC.out.blk (by decide)) 6).1
        have c6 := c6.trans (show _ = some (.slice lao k lcap) from rfl)
        by_cases hlt : j < k
        · have hlt' : (j : Int) < k := by omega
          have hw : IntKind.i64.wrap ((j : Int) + 1) = (j : Int) + 1 := IntWalk.i64_in _ (by omega)
          have Hlt := Lib.hid hlt
          have hlg : j < gl.length := by rw [← HKl.out]; exact hlt
          have hrow := row_keepT HC.out.lnt hkt (by decide)
          obtain ⟨lb, lo, rfl, l0⟩ : ∃ b off, lao = some ⟨b, off, none⟩ ∧ wr.cell? ⟨b, off + j, none⟩ = some (lntv gl[j]) := by
            obtain ⟨ao', b, off, cap', hv, -, -, -, ha, -, hcc⟩ := own_cells (lnt_one gl) hrow
            simp only [Value.slice.injEq] at hv
            obtain ⟨rfl, -, rfl⟩ := hv
            refine ⟨b, off, ha (by simp; omega), ?_⟩
            have := hcc j (by simpa using hlg)
            rw [List.getElem_map] at this
            exact this
          have hni : ¬ (gl[j]).1 ∈ (gl.take j).map (·.1) := by
            intro hm
            obtain ⟨x, hx, he⟩ := List.mem_map.1 hm
            obtain ⟨q, hq, rfl⟩ := List.getElem_of_mem hx
            simp only [List.length_take] at hq
            rw [List.getElem_take] at he
            exact (List.pairwise_iff_getElem.1 HC.out.apart q j (by omega) hlg (by omega)) he
          have hb := hks.obj (HC.out.lents _ (List.getElem_mem hlg)) hni
          have hcl : (gl[j]).2.length ≤ 1000000 := by rw [HE.out j hlg]; exact HT.out j
          have hsz : (tvs (tmk (gl[j]).2 12)).toArray.size = ((gl[j]).2.length + 12) * 5 := by rw [List.size_toArray, tvs, flat_len twc_len, tmk_len]
          have HO := Lib.hid (overTwigs_any (gl[j]).2.length (gl[j]).1 _ wr hb hsz hcl)
          have htk : (gl.take (j + 1)).map (·.1) = (gl.take j).map (·.1) ++ [(gl[j]).1] := by rw [List.take_succ_eq_append_getElem hlg, List.map_append]; rfl
          have HTK := Lib.hid htk
          have HB := Lib.hid hb
          have HKT := Lib.hid hkt
          have HKS := Lib.hid hks
          unfold lntv at l0
          generalize gl[j] = x at *
          obtain ⟨g, tr⟩ := x
          simp only at *
          clear hj hlt hkt hks hrow hni hb hcl hsz htk
          go_wp2_with fail
          refine HO.out.mono ?_
          rintro e w3 ⟨rfl, hk3⟩
          have HK3 := Lib.hid hk3
          clear hk3
          go_wp2_with fail
          go_roundw
          case rel =>
            refine ⟨j + 1, Hlt.out, by go_num, KeepT.trans HKT.out (Keeps.mono HK3.out fun q _ e => by subst e; exact ⟨Nat.zero_le _, by unfold Tyb; rw [HB.out]; simp⟩), ?_⟩
            rw [HTK.out]
            exact (HKS.out.mono (fun q _ h => List.mem_append_left _ h)).trans (HK3.out.mono fun q _ e => by subst e; simp)
          case measure => have := Hlt.out; simp [intOf]; omega
        · have hlt' : ¬ (j : Int) < k := by omega
          have hjk : j = gl.length := by rw [← HKl.out]; omega
          have HKS := Lib.hid hks
          have HJ := Lib.hid hjk
          clear hks hkt hj hlt hjk
          go_wp2
          go_ret
          refine ⟨rfl, ?_⟩
          have := HKS.out
          rw [HJ.out, List.take_length] at this
          simpa using this
end Go.Proofs.Ytebgleehmgmfbaa
