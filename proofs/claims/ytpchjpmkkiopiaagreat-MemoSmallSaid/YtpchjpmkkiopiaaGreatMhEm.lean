import Derived.Test.YtpchjpmkkiopiaaGreatMhDm
namespace Go.Proofs.YtpchjpmkkiopiaaGreat
open Go.RowKit Go.Lib

theorem wpAnyH_list {P : Program} {md : Region.Mode} {ops : Array Oper} {Q : Exit → Act → World → Prop} {S : World → Prop} {fuel : Nat} {listed L : Array Bool} {a : Act} {w : World} (h : listed = L)
    (H : wpAnyH P md ops Q S fuel L a w) : wpAnyH P md ops Q S fuel listed a w := by rw [h]; exact H
set_option maxRecDepth 100000 in
set_option maxHeartbeats 16000000 in
theorem same_any [Watch] {base b : Nat} {p q nm km em r : Nat} {next room peak room' : Int} {L D : List Rec} {kv lv : Value} (k : Ky) (w : World) (h : MeIs base w p q nm km em next room peak L) (hr : Rm b w r kv lv room' peak D) (hp : D.map plR = L.map plR) (hk : kyOk k) (hsz : ∀ r ∈ L, r.x.tree.length ≤ 1000000 ∧ r.x.tou.length ≤ 1000000) (he : EntsAt w D) :
    Calls Tryz.prog 24 #[.pointer (some ⟨p, 0, none⟩), .pointer (some ⟨r, 0, none⟩), kyv k] w fun e w' => e = .returned (.bool true) ∧ Below w.heap.size w w' := by
  have hle := hr.le
  have hlen := plR_len hp
  have H := Lib.hid h
  have HR := Lib.hid hr
  have HP := Lib.hid hp
  have HOk := Lib.hid hk
  have HSz := Lib.hid hsz
  have HEn := Lib.hid he
  have HWf := Lib.hid h.ln.ord.wf
  obtain ⟨ka, kc, rfl⟩ := own_val hr.keys
  obtain ⟨n, hn⟩ : ∃ n, n = L.length := ⟨_, rfl⟩
  have HN := Lib.hid hn
  rw [hlen, ← hn] at HR hle
  have hnD : n = D.length := by omega
  have HND := Lib.hid hnD
  obtain ⟨i0, hi0, hz0, hz1, hz2⟩ := info_parts Tryz.infoKy
  clear h hr hp hk hsz he hn hlen hnD
  go_enter Tryz.func24, Tryz.ntmps24
  go_upto_region 1 with (fail)
  refine gen_world (S := fun u => Below w.heap.size w u ∧ u.heap[w.heap.size]? = some (.cells #[.int .i64 k.rule, .int .i64 k.level, .int .i64 k.place] 24 (0, 0))) (one_new w _) (fun u hu => ?_)
  obtain ⟨hb, hx⟩ := hu
  obtain ⟨X, hX⟩ : ∃ X, X = w.heap.size := ⟨_, rfl⟩
  rw [← hX] at hx ⊢
  have HB := Lib.hid hb
  have HX := Lib.hid hx
  replace H := Lib.hid (H.out.later hb)
  replace HR := Lib.hid (HR.out.later hb)
  replace HEn := Lib.hid (HEn.out.later hb)
  have HM := Lib.hid (show ∀ wS, Below u.heap.size u wS → wS.cell? ⟨r, 1, none⟩ = some (.int .i64 peak) ∧ wS.cell? ⟨r, 2, none⟩ = some (.slice ka n kc) from fun wS hw => by
    obtain ⟨-, c1, c2, -⟩ := four_boxM (HR.out.later hw).blk
    exact ⟨c1, c2⟩)
  have hqn : ((n : Int) != n) = false := by simp
  have hqp : (peak != peak) = false := by simp
  clear hX hb hx
  refine wp_region_held_drew (S := fun z => Below u.heap.size u z) (by kernel_rfl) (Below.refl u.heap.size u).drew (fun hS => ?_)
  refine wpAnyH_take (i := 0) (oi := ⟨_, _, _, _, _, _⟩) (v := ?v1) rfl (by kernel_rfl) (by kernel_rfl) (by kernel_rfl) (fun _ _ _ h => h) ?y1 hS ?_
  case y1 => first | (refine Or.inr ⟨by rfl, ?_⟩; with_reducible rfl) | (refine Or.inl ⟨by rfl, ?_⟩; intro wS hSw; obtain ⟨m1, m2⟩ := HM.out wS hSw; go_simp; try with_reducible rfl)
  simp only [Act.put, List.setIfInBounds_toArray, List.set_cons_zero, List.set_cons_succ]
  refine wpAnyH_take (i := 2) (oi := ⟨_, _, _, _, _, _⟩) (v := ?v2) rfl (by kernel_rfl) (by kernel_rfl) (by kernel_rfl) (fun _ _ _ h => h) ?y2 hS ?_
  case y2 => first | (refine Or.inr ⟨by rfl, ?_⟩; with_reducible rfl) | (refine Or.inl ⟨by rfl, ?_⟩; intro wS hSw; obtain ⟨m1, m2⟩ := HM.out wS hSw; go_simp; try with_reducible rfl)
  simp only [Act.put, List.setIfInBounds_toArray, List.set_cons_zero, List.set_cons_succ]
  refine wpAnyH_take (i := 3) (oi := ⟨_, _, _, _, _, _⟩) (v := ?v3) rfl (by kernel_rfl) (by kernel_rfl) (by kernel_rfl) (fun _ _ _ h => h) ?y3 hS ?_
  case y3 => first | (refine Or.inr ⟨by rfl, ?_⟩; with_reducible rfl) | (refine Or.inl ⟨by rfl, ?_⟩; intro wS hSw; obtain ⟨m1, m2⟩ := HM.out wS hSw; go_simp; try with_reducible rfl)
  simp only [Act.put, List.setIfInBounds_toArray, List.set_cons_zero, List.set_cons_succ]
  refine wpAnyH_take (i := 4) (oi := ⟨_, _, _, _, _, _⟩) (v := ?v4) rfl (by kernel_rfl) (by kernel_rfl) (by kernel_rfl) (fun _ _ _ h => h) ?y4 hS ?_
  case y4 => first | (refine Or.inr ⟨by rfl, ?_⟩; with_reducible rfl) | (refine Or.inl ⟨by rfl, ?_⟩; intro wS hSw; obtain ⟨m1, m2⟩ := HM.out wS hSw; go_simp; try with_reducible rfl)
  simp only [Act.put, List.setIfInBounds_toArray, List.set_cons_zero, List.set_cons_succ]
  refine wpAnyH_take (i := 5) (oi := ⟨_, _, _, _, _, _⟩) (v := ?v5) rfl (by kernel_rfl) (by kernel_rfl) (by kernel_rfl) (fun _ _ _ h => h) ?y5 hS ?_
  case y5 => first | (refine Or.inr ⟨by rfl, ?_⟩; with_reducible rfl) | (refine Or.inl ⟨by rfl, ?_⟩; intro wS hSw; obtain ⟨m1, m2⟩ := HM.out wS hSw; go_simp; try with_reducible rfl)
  simp only [Act.put, List.setIfInBounds_toArray, List.set_cons_zero, List.set_cons_succ]
  refine wpAnyH_take (i := 6) (oi := ⟨_, _, _, _, _, _⟩) (v := ?v6) rfl (by kernel_rfl) (by kernel_rfl) (by kernel_rfl) (fun _ _ _ h => h) ?y6 hS ?_
  case y6 => first | (refine Or.inr ⟨by rfl, ?_⟩; with_reducible rfl) | (refine Or.inl ⟨by rfl, ?_⟩; intro wS hSw; obtain ⟨m1, m2⟩ := HM.out wS hSw; go_simp; try with_reducible rfl)
  simp only [Act.put, List.setIfInBounds_toArray, List.set_cons_zero, List.set_cons_succ]
  refine wpAnyH_ready (rs := [1]) (by kernel_rfl) (by simp) ?_
  refine AllReadyH.cons (o := ⟨_, _, _, _, _, _⟩) rfl (fun K hK => ?_) AllReadyH.nil
  go_simp
  refine (show Calls Tryz.prog 26 #[.pointer (some ⟨p, 0, none⟩)] _ _ from by
    have := mLen_any _ (H.out.later hS)
    rw [← HN.out] at this
    exact this).mono ?_
  rintro e w2 ⟨rfl, rfl⟩
  go_wp2_with fail
  refine hK.out _ _ hS (fun _ => ?_)
  clear hK K
  try simp only [Act.put, List.setIfInBounds_toArray, List.set_cons_zero, List.set_cons_succ]
  refine wpAnyH_take (i := 7) (oi := ⟨_, _, _, _, _, _⟩) (v := ?v7) rfl (by kernel_rfl) (by kernel_rfl) (by kernel_rfl) (fun _ _ _ h => h) ?y7 hS ?_
  case y7 => first | (refine Or.inr ⟨by rfl, ?_⟩; with_reducible rfl) | (refine Or.inl ⟨by rfl, ?_⟩; intro wS hSw; obtain ⟨m1, m2⟩ := HM.out wS hSw; go_simp; try with_reducible rfl)
  simp only [Act.put, List.setIfInBounds_toArray, List.set_cons_zero, List.set_cons_succ]
  refine wpAnyH_take (i := 8) (oi := ⟨_, _, _, _, _, _⟩) (v := ?v8) rfl (by kernel_rfl) (by kernel_rfl) (by kernel_rfl) (fun _ _ _ h => h) ?y8 hS ?_
  case y8 => first | (refine Or.inr ⟨by rfl, ?_⟩; with_reducible rfl) | (refine Or.inl ⟨by rfl, ?_⟩; intro wS hSw; obtain ⟨m1, m2⟩ := HM.out wS hSw; go_simp; try with_reducible rfl)
  simp only [Act.put, List.setIfInBounds_toArray, List.set_cons_zero, List.set_cons_succ]
  refine wpAnyH_take (i := 9) (oi := ⟨_, _, _, _, _, _⟩) (v := ?v9) rfl (by kernel_rfl) (by kernel_rfl) (by kernel_rfl) (fun _ _ _ h => h) ?y9 hS ?_
  case y9 => first | (refine Or.inr ⟨by rfl, ?_⟩; with_reducible rfl) | (refine Or.inl ⟨by rfl, ?_⟩; intro wS hSw; obtain ⟨m1, m2⟩ := HM.out wS hSw; go_simp; try with_reducible rfl)
  simp only [Act.put, List.setIfInBounds_toArray, List.set_cons_zero, List.set_cons_succ]
  refine wpAnyH_take (i := 11) (oi := ⟨_, _, _, _, _, _⟩) (v := ?v10) rfl (by kernel_rfl) (by kernel_rfl) (by kernel_rfl) (fun _ _ _ h => h) ?y10 hS ?_
  case y10 => first | (refine Or.inr ⟨by rfl, ?_⟩; with_reducible rfl) | (refine Or.inl ⟨by rfl, ?_⟩; intro wS hSw; obtain ⟨m1, m2⟩ := HM.out wS hSw; go_simp; try with_reducible rfl)
  simp only [Act.put, List.setIfInBounds_toArray, List.set_cons_zero, List.set_cons_succ]
  refine wpAnyH_take (i := 12) (oi := ⟨_, _, _, _, _, _⟩) (v := ?v11) rfl (by kernel_rfl) (by kernel_rfl) (by kernel_rfl) (fun _ _ _ h => h) ?y11 hS ?_
  case y11 => first | (refine Or.inr ⟨by rfl, ?_⟩; with_reducible rfl) | (refine Or.inl ⟨by rfl, ?_⟩; intro wS hSw; obtain ⟨m1, m2⟩ := HM.out wS hSw; go_simp; try with_reducible rfl)
  simp only [Act.put, List.setIfInBounds_toArray, List.set_cons_zero, List.set_cons_succ]
  refine wpAnyH_take (i := 13) (oi := ⟨_, _, _, _, _, _⟩) (v := ?v12) rfl (by kernel_rfl) (by kernel_rfl) (by kernel_rfl) (fun _ _ _ h => h) ?y12 hS ?_
  case y12 => first | (refine Or.inr ⟨by rfl, ?_⟩; with_reducible rfl) | (refine Or.inl ⟨by rfl, ?_⟩; intro wS hSw; obtain ⟨m1, m2⟩ := HM.out wS hSw; go_simp; try with_reducible rfl)
  simp only [Act.put, List.setIfInBounds_toArray, List.set_cons_zero, List.set_cons_succ]
  refine wpAnyH_take (i := 14) (oi := ⟨_, _, _, _, _, _⟩) (v := ?v13) rfl (by kernel_rfl) (by kernel_rfl) (by kernel_rfl) (fun _ _ _ h => h) ?y13 hS ?_
  case y13 => first | (refine Or.inr ⟨by rfl, ?_⟩; with_reducible rfl) | (refine Or.inl ⟨by rfl, ?_⟩; intro wS hSw; obtain ⟨m1, m2⟩ := HM.out wS hSw; go_simp; try with_reducible rfl)
  simp only [Act.put, List.setIfInBounds_toArray, List.set_cons_zero, List.set_cons_succ]
  refine wpAnyH_ready (rs := [10]) (by kernel_rfl) (by simp) ?_
  refine AllReadyH.cons (o := ⟨_, _, _, _, _, _⟩) rfl (fun K hK => ?_) AllReadyH.nil
  go_simp
  refine (mPeak_any _ (H.out.later hS)).mono ?_
  rintro e w2 ⟨rfl, rfl⟩
  go_wp2_with fail
  refine hK.out _ _ hS (fun _ => ?_)
  clear hK K
  try simp only [Act.put, List.setIfInBounds_toArray, List.set_cons_zero, List.set_cons_succ]
  refine wpAnyH_take (i := 15) (oi := ⟨_, _, _, _, _, _⟩) (v := ?v14) rfl (by kernel_rfl) (by kernel_rfl) (by kernel_rfl) (fun _ _ _ h => h) ?y14 hS ?_
  case y14 => first | (refine Or.inr ⟨by rfl, ?_⟩; with_reducible rfl) | (refine Or.inl ⟨by rfl, ?_⟩; intro wS hSw; obtain ⟨m1, m2⟩ := HM.out wS hSw; go_simp; try with_reducible rfl)
  simp only [Act.put, List.setIfInBounds_toArray, List.set_cons_zero, List.set_cons_succ]
  refine wpAnyH_take (i := 16) (oi := ⟨_, _, _, _, _, _⟩) (v := ?v15) rfl (by kernel_rfl) (by kernel_rfl) (by kernel_rfl) (fun _ _ _ h => h) ?y15 hS ?_
  case y15 => first | (refine Or.inr ⟨by rfl, ?_⟩; with_reducible rfl) | (refine Or.inl ⟨by rfl, ?_⟩; intro wS hSw; obtain ⟨m1, m2⟩ := HM.out wS hSw; go_simp; try with_reducible rfl)
  simp only [Act.put, List.setIfInBounds_toArray, List.set_cons_zero, List.set_cons_succ]
  refine wpAnyH_take (i := 17) (oi := ⟨_, _, _, _, _, _⟩) (v := ?v16) rfl (by kernel_rfl) (by kernel_rfl) (by kernel_rfl) (fun _ _ _ h => h) ?y16 hS ?_
  case y16 => first | (refine Or.inr ⟨by rfl, ?_⟩; with_reducible rfl) | (refine Or.inl ⟨by rfl, ?_⟩; intro wS hSw; obtain ⟨m1, m2⟩ := HM.out wS hSw; go_simp; try with_reducible rfl)
  simp only [Act.put, List.setIfInBounds_toArray, List.set_cons_zero, List.set_cons_succ]
  refine wpAnyH_take (i := 18) (oi := ⟨_, _, _, _, _, _⟩) (v := ?v17) rfl (by kernel_rfl) (by kernel_rfl) (by kernel_rfl) (fun _ _ _ h => h) ?y17 hS ?_
  case y17 => first | (refine Or.inr ⟨by rfl, ?_⟩; with_reducible rfl) | (refine Or.inl ⟨by rfl, ?_⟩; intro wS hSw; obtain ⟨m1, m2⟩ := HM.out wS hSw; go_simp; try with_reducible rfl)
  simp only [Act.put, List.setIfInBounds_toArray, List.set_cons_zero, List.set_cons_succ]
  refine wpAnyH_take (i := 20) (oi := ⟨_, _, _, _, _, _⟩) (v := ?v18) rfl (by kernel_rfl) (by kernel_rfl) (by kernel_rfl) (fun _ _ _ h => h) ?y18 hS ?_
  case y18 => first | (refine Or.inr ⟨by rfl, ?_⟩; with_reducible rfl) | (refine Or.inl ⟨by rfl, ?_⟩; intro wS hSw; obtain ⟨m1, m2⟩ := HM.out wS hSw; go_simp; try with_reducible rfl)
  simp only [Act.put, List.setIfInBounds_toArray, List.set_cons_zero, List.set_cons_succ]
  refine wpAnyH_ready (rs := [19]) (by kernel_rfl) (by simp) ?_
  refine AllReadyH.cons (o := ⟨_, _, _, _, _, _⟩) rfl (fun K hK => ?_) AllReadyH.nil
  go_simp
  refine (mKeys_any _ (H.out.later hS)).mono ?_
  rintro e z1 ⟨v1, S, hks, rfl, ho1, hb⟩
  go_wp2_with fail
  have hS1 := hS.trans (hb.mono hS.size)
  refine hK.out _ _ hS1 (fun _ => ?_)
  clear hK K
  try simp only [Act.put, List.setIfInBounds_toArray, List.set_cons_zero, List.set_cons_succ]
  have HKs := Lib.hid hks
  have HO1 := Lib.hid ho1
  clear hks ho1
  clear hb hS
  have hS := hS1
  clear hS1
  refine wpAnyH_ready (rs := [21]) (by kernel_rfl) (by simp) ?_
  refine AllReadyH.cons (o := ⟨_, _, _, _, _, _⟩) rfl (fun K hK => ?_) AllReadyH.nil
  go_simp
  refine (rSorted_any _ (HR.out.later hS)).mono ?_
  rintro e z2 ⟨v2, S2, rfl, hpm, hso, ho2, hb⟩
  go_wp2_with fail
  have hS1 := hS.trans (hb.mono hS.size)
  refine hK.out _ _ hS1 (fun _ => ?_)
  clear hK K
  try simp only [Act.put, List.setIfInBounds_toArray, List.set_cons_zero, List.set_cons_succ]
  have hSS : S2 = S := sorted_one (hpm.trans (by rw [plR_keys HP.out]; exact HKs.out.1.symm)) hso HKs.out.2
  subst hSS
  have hA2 := Lib.hid (show KyAt z2 v2 S2 from own_rows kcl rfl ho2)
  have hA1 := Lib.hid ((KyOwn.at HO1.out).later hb)
  clear hpm hso ho2
  clear hb hS
  have hS := hS1
  clear hS1
  refine wpAnyH_ready (rs := [22]) (by kernel_rfl) (by simp) ?_
  refine AllReadyH.cons (o := ⟨_, _, _, _, _, _⟩) rfl (fun K hK => ?_) AllReadyH.nil
  go_simp
  refine (keys_any _ _ S2 _ hA1.out hA2.out).mono ?_
  rintro e z3 ⟨rfl, hb⟩
  go_wp2_with fail
  have hS1 := hS.trans (hb.mono hS.size)
  refine hK.out _ _ hS1 (fun _ => ?_)
  clear hK K
  try simp only [Act.put, List.setIfInBounds_toArray, List.set_cons_zero, List.set_cons_succ]
  clear hb hS
  have hS := hS1
  clear hS1
  refine wpAnyH_take (i := 23) (oi := ⟨_, _, _, _, _, _⟩) (v := ?v19) rfl (by kernel_rfl) (by kernel_rfl) (by kernel_rfl) (fun _ _ _ h => h) ?y19 hS ?_
  case y19 => first | (refine Or.inr ⟨by rfl, ?_⟩; with_reducible rfl) | (refine Or.inl ⟨by rfl, ?_⟩; intro wS hSw; go_simp; try with_reducible rfl)
  simp only [Act.put, List.setIfInBounds_toArray, List.set_cons_zero, List.set_cons_succ]
  refine wpAnyH_take (i := 24) (oi := ⟨_, _, _, _, _, _⟩) (v := ?v20) rfl (by kernel_rfl) (by kernel_rfl) (by kernel_rfl) (fun _ _ _ h => h) ?y20 hS ?_
  case y20 => first | (refine Or.inr ⟨by rfl, ?_⟩; with_reducible rfl) | (refine Or.inl ⟨by rfl, ?_⟩; intro wS hSw; go_simp; try with_reducible rfl)
  simp only [Act.put, List.setIfInBounds_toArray, List.set_cons_zero, List.set_cons_succ]
  refine wpAnyH_done (by kernel_rfl) ?_ _
  have HS := Lib.hid hS
  replace HX := Lib.hid ((hS.block _ (lt_of_block HX.out)).trans HX.out)
  replace H := Lib.hid (H.out.later hS)
  replace HR := Lib.hid (HR.out.later hS)
  replace HEn := Lib.hid (HEn.out.later hS)
  replace HB := Lib.hid (HB.out.trans (hS.mono HB.out.size))
  clear hS HM HO1 HKs hA1 hA2 hqn hqp HS
  go_upto_region 3 with (fail)
  obtain ⟨B, hB⟩ : ∃ B, B = z3.heap.size := ⟨_, rfl⟩
  have HSz2 := Lib.hid (show ∀ z, Below B z3 z → B ≤ z.heap.size from fun z hz => by rw [hB]; exact hz.size)
  have HEz := Lib.hid (show ∀ z, Below B z3 z → Below z3.heap.size z3 z from fun z hz => by rw [← hB]; exact hz)
  have hd : Below B z3 z3.drew := by rw [hB]; exact (Below.refl z3.heap.size z3).drew
  have HC := Lib.hid (show ∀ wS, Below B z3 wS → wS.cell? ⟨X, 0, none⟩ = some (.int .i64 k.rule) ∧ wS.cell? ⟨X, 1, none⟩ = some (.int .i64 k.level) ∧ wS.cell? ⟨X, 2, none⟩ = some (.int .i64 k.place) from fun wS hw => by
    rw [hB] at hw
    obtain ⟨b0, b1, b2, -⟩ := three_box ((hw.block _ (lt_of_block HX.out)).trans HX.out)
    exact ⟨b0, b1, b2⟩)
  clear hB
  apply cut_hid
  · intro key
    refine wp_region_held_drew (S := fun z => Below B z3 z) (by kernel_rfl) hd (fun hS => ?_)
    refine wpAnyH_take (i := 0) (oi := ⟨_, _, _, _, _, _⟩) (v := ?v21) rfl (by kernel_rfl) (by kernel_rfl) (by kernel_rfl) (fun _ _ _ h => h) ?y21 hS ?_
    case y21 => first | (refine Or.inr ⟨by rfl, ?_⟩; with_reducible rfl) | (refine Or.inl ⟨by rfl, ?_⟩; intro wS hSw; obtain ⟨b0, b1, b2⟩ := HC.out wS hSw; go_simp; try with_reducible rfl)
    simp only [Act.put, List.setIfInBounds_toArray, List.set_cons_zero, List.set_cons_succ]
    refine wpAnyH_take (i := 2) (oi := ⟨_, _, _, _, _, _⟩) (v := ?v22) rfl (by kernel_rfl) (by kernel_rfl) (by kernel_rfl) (fun _ _ _ h => h) ?y22 hS ?_
    case y22 => first | (refine Or.inr ⟨by rfl, ?_⟩; with_reducible rfl) | (refine Or.inl ⟨by rfl, ?_⟩; intro wS hSw; obtain ⟨b0, b1, b2⟩ := HC.out wS hSw; go_simp; try with_reducible rfl)
    simp only [Act.put, List.setIfInBounds_toArray, List.set_cons_zero, List.set_cons_succ]
    refine wpAnyH_ready (rs := [1, 3]) (by kernel_rfl) (by simp) ?_
    refine AllReadyH.cons (o := ⟨_, _, _, _, _, _⟩) rfl (fun K hK => ?_) (AllReadyH.cons (o := ⟨_, _, _, _, _, _⟩) rfl (fun K hK => ?_) AllReadyH.nil)
    · go_simp
      refine (mKeys_any _ (H.out.later (HEz.out _ hS))).mono ?_
      rintro e w2 ⟨v1, S, hks, rfl, ho1, hb⟩
      go_wp2_with fail
      have hS1 := hS.trans (hb.mono (HSz2.out _ hS))
      refine hK.out _ _ hS1 (fun hSd => ?_)
      clear hSd hK K
      try simp only [Act.put, List.setIfInBounds_toArray, List.set_cons_zero, List.set_cons_succ]
      replace ho1 := ownsRow_base ho1 (HSz2.out _ hS)
      clear hb hS
      have hS := hS1
      clear hS1
      refine wpAnyH_ready (rs := [3]) (by kernel_rfl) (by simp) ?_
      refine AllReadyH.cons (o := ⟨_, _, _, _, _, _⟩) rfl (fun K hK => ?_) AllReadyH.nil
      go_simp
      refine hK.out _ _ (hS.alloc (HSz2.out _ hS) _) (fun _ => ?_)
      clear hK K
      try simp only [Act.put, List.setIfInBounds_toArray, List.set_cons_zero, List.set_cons_succ]
      obtain ⟨gD, hgD⟩ : ∃ n, n = w2.heap.size := ⟨_, rfl⟩
      refine gen_anyH (S2 := fun z => Below B z3 z ∧ z.heap[gD]? = some (.cells #[.int .i64 k.rule, .int .i64 k.level, .int .i64 k.place] 24 (0, 0)) ∧ z.ownsRow B 24 3 v1 S.length (S.flatMap kyc)) ⟨hS.alloc (HSz2.out _ hS) _, by rw [hgD]; exact heap_alloc_new _ _, row_later ho1 ((Below.refl _ _).alloc (Nat.le_refl _) _)⟩ (fun wv hu => ?_)
      clear hS ho1
      rw [← hgD]
      clear hgD
      obtain ⟨hS, hD, ho1⟩ := hu
      refine wpAnyH_list (L := #[true, true, true, true, false, false]) (by kernel_rfl) ?_
      revert hD
      revert gD
      revert ho1
      revert hks
      revert S
      revert v1
      revert hS
      revert wv
      exact key.out
    · go_simp
      refine hK.out _ _ (hS.alloc (HSz2.out _ hS) _) (fun _ => ?_)
      clear hK K
      try simp only [Act.put, List.setIfInBounds_toArray, List.set_cons_zero, List.set_cons_succ]
      obtain ⟨gD, hgD⟩ : ∃ n, n = z3.heap.size := ⟨_, rfl⟩
      refine gen_anyH (S2 := fun z => Below B z3 z ∧ z.heap[gD]? = some (.cells #[.int .i64 k.rule, .int .i64 k.level, .int .i64 k.place] 24 (0, 0))) ⟨hS.alloc (HSz2.out _ hS) _, by rw [hgD]; exact heap_alloc_new _ _⟩ (fun wv hu => ?_)
      clear hS
      rw [← hgD]
      clear hgD
      obtain ⟨hS, hD⟩ := hu
      refine wpAnyH_ready (rs := [1]) (by kernel_rfl) (by simp) ?_
      refine AllReadyH.cons (o := ⟨_, _, _, _, _, _⟩) rfl (fun K hK => ?_) AllReadyH.nil
      go_simp
      refine (mKeys_any _ (H.out.later (HEz.out _ hS))).mono ?_
      rintro e w2 ⟨v1, S, hks, rfl, ho1, hb⟩
      go_wp2_with fail
      have hS1 := hS.trans (hb.mono (HSz2.out _ hS))
      refine hK.out _ _ hS1 (fun hSd => ?_)
      clear hSd hK K
      try simp only [Act.put, List.setIfInBounds_toArray, List.set_cons_zero, List.set_cons_succ]
      replace ho1 := ownsRow_base ho1 (HSz2.out _ hS)
      replace hD := (hb.block _ (lt_of_block hD)).trans hD
      clear hb hS
      have hS := hS1
      clear hS1
      refine wpAnyH_list (L := #[true, true, true, true, false, false]) (by kernel_rfl) ?_
      revert hD
      revert gD
      revert ho1
      revert hks
      revert S
      revert v1
      revert hS
      revert w2
      exact key.out
  · intro wv hS v1 S hks ho1 gD hD
    refine wpAnyH_ready (rs := [4]) (by kernel_rfl) (by simp) ?_
    refine AllReadyH.cons (o := ⟨_, _, _, _, _, _⟩) rfl (fun K hK => ?_) AllReadyH.nil
    obtain ⟨ta, tc, rfl⟩ := own_val ho1
    have hls : S.length = n := by rw [hks.1.length_eq, List.length_map, HN.out]
    rw [hls] at ho1 ⊢
    refine step_append_tu (by rfl) _ _ 50 50 (by rfl) B 24 24 i0 _ 3 24 Tryz.underlying50 Tryz.underlying50 hi0 hz0 hz1 hz2 rfl (by decide) ta n tc (S.flatMap kyc) (by rfl) ho1 (some ⟨gD, 0, none⟩) 1 1 (kyc k) (by rfl) (fun h => by cases h) rfl (fun ad h => by cases h; exact World.news_of_block (cs := #[.int .i64 k.rule, .int .i64 k.level, .int .i64 k.place]) (t := 24) (fr := (0, 0)) hD) (kyc_one k) (by unfold maxLen; omega) (by omega) (HSz2.out _ hS) ?_
    intro v3 w3 hown3 hgrow3
    obtain ⟨la, lc, rfl⟩ := own_val hown3
    have hS3 := hS.grown hgrow3 (HSz2.out _ hS) (fun k hk => (ho1.lt k hk).1)
    refine hK.out _ _ hS3 (fun _ => ?_)
    clear hK K
    try simp only [Act.put, List.setIfInBounds_toArray, List.set_cons_zero, List.set_cons_succ]
    have HL := Lib.hid (show KyAt w3 (.slice la (n + 1) lc) (S ++ [k]) from own_rows kcl (n := n + 1) (by simp [hls]) (by simpa using hown3))
    have HKs := Lib.hid hks
    clear hks ho1 hD hown3 hgrow3 hS
    have hS := hS3
    clear hS3
    refine wpAnyH_take (i := 5) (oi := ⟨_, _, _, _, _, _⟩) (v := ?v23) rfl (by kernel_rfl) (by kernel_rfl) (by kernel_rfl) (fun _ _ _ h => h) ?y23 hS ?_
    case y23 => first | (refine Or.inr ⟨by rfl, ?_⟩; with_reducible rfl) | (refine Or.inl ⟨by rfl, ?_⟩; intro wS hSw; go_simp; try with_reducible rfl)
    simp only [Act.put, List.setIfInBounds_toArray, List.set_cons_zero, List.set_cons_succ]
    refine wpAnyH_done (by kernel_rfl) ?_ _
    have hSw := HEz.out _ hS
    replace H := Lib.hid (H.out.later hSw)
    replace HR := Lib.hid (HR.out.later hSw)
    replace HEn := Lib.hid (HEn.out.later hSw)
    replace HB := Lib.hid (HB.out.trans (hSw.mono HB.out.size))
    obtain ⟨m, hm⟩ : ∃ m, m = n + 1 := ⟨_, rfl⟩
    have HMl := Lib.hid (show m = (S ++ [k]).length from by rw [hm]; simp [hls])
    have hm2 : m ≤ 100001 := by omega
    have HY := Lib.hid (show ∀ y ∈ S ++ [k], kyOk y from fun y hy => by
      rcases List.mem_append.1 hy with hy | hy
      · obtain ⟨r, hr, rfl⟩ := List.mem_map.1 (HKs.out.1.mem_iff.1 hy)
        exact HWf.out r hr
      · simp at hy; subst hy; exact HOk.out)
    rw [← hm] at HL ⊢
    clear hSw hS hm hls HC HSz2 HEz hd
    go_upto_region 5 with (fail)
    refine gen_world (S := fun v => Below w3.heap.size w3 v) (Below.refl _ _) (fun w4 hw4 => ?_)
    replace H := Lib.hid (H.out.later hw4)
    replace HR := Lib.hid (HR.out.later hw4)
    replace HEn := Lib.hid (HEn.out.later hw4)
    replace HL := Lib.hid (HL.out.later hw4)
    replace HB := Lib.hid (HB.out.trans (hw4.mono HB.out.size))
    clear hw4
    obtain ⟨T, hT⟩ : ∃ T, T = S ++ [k] := ⟨_, rfl⟩
    rw [← hT] at HL HMl HY
    clear hT
    go_loopw [8] (fun i wr => ∃ j : Nat, j ≤ m ∧ i = .int .i64 j ∧ Hid (Below w4.heap.size w4 wr)) (fun i _ => m - (intOf i).toNat)
    case atStart => exact ⟨0, Nat.zero_le _, rfl, Lib.hid (Below.refl _ _)⟩
    case round =>
      obtain ⟨j, hj, rfl, Hb⟩ := hrel
      by_cases hlt : j < m
      · have hlt2 : (j : Int) < m := by omega
        have hjT : j < T.length := by rw [← HMl.out]; exact hlt
        obtain ⟨lb, lo, rfl, -, -⟩ := HL.out.cells.2.2 j hjT
        have HC := Lib.hid (show ∀ wS, Below wr.heap.size wr wS → wS.cell? ⟨lb, lo + j * 3, none⟩ = some (.int .i64 T[j].rule) ∧ wS.cell? ⟨lb, lo + j * 3 + 1, none⟩ = some (.int .i64 T[j].level) ∧ wS.cell? ⟨lb, lo + j * 3 + 2, none⟩ = some (.int .i64 T[j].place) from fun wS hw => by
          obtain ⟨b2, off2, e, -, h1⟩ := (HL.out.later (Hb.out.trans (hw.mono Hb.out.size))).cells.2.2 j hjT
          simp only [Option.some.injEq, Addr.mk.injEq, and_true] at e
          obtain ⟨rfl, rfl⟩ := e
          exact h1)
        obtain ⟨y, hy⟩ : ∃ y, y = T[j] := ⟨_, rfl⟩
        have HYk := Lib.hid (show kyOk y from by rw [hy]; exact HY.out _ (List.getElem_mem _))
        rw [← hy] at HC
        clear hy hjT
        obtain ⟨c0, c1, c2⟩ := HC.out wr (Below.refl _ _)
        go_wp2_with fail
        refine (mGetX_any wr (H.out.later Hb.out) HYk.out HSz.out).mono ?_
        rintro e w5 ⟨x, rfl, hpx, ht, hi, hlt1, hlk1, hb5⟩
        obtain ⟨is, en, far, tree, tou, tv, kv5⟩ := x
        simp only at ht hi hlt1 hlk1
        obtain ⟨at1, ct, rfl⟩ := own_val ht
        obtain ⟨ak1, ck, rfl⟩ := own_val hi
        have HPx := Lib.hid hpx
        have HT1 := Lib.hid ht
        have HI1 := Lib.hid hi
        have HL1 := Lib.hid (And.intro hlt1 hlk1)
        have HB5 := Lib.hid hb5
        clear hpx ht hi hlt1 hlk1 hb5 c0 c1 c2
        go_upto_region 8 with (fail)
        refine gen_world (S := fun v => Below w5.heap.size w5 v ∧ v.heap[w5.heap.size]? = some (.cells #[.bool is, .int .i64 en, .int .i64 far, .slice at1 tree.length ct, .slice ak1 tou.length ck] 30 (0, 0))) (one_new w5 _) (fun u5 hu5 => ?_)
        obtain ⟨hb, hx⟩ := hu5
        obtain ⟨X5, hX5⟩ : ∃ X, X = w5.heap.size := ⟨_, rfl⟩
        rw [← hX5] at hx ⊢
        have HX5e := Lib.hid hX5
        have HX5 := Lib.hid hx
        have HBu := Lib.hid (HB5.out.trans (hb.mono HB5.out.size))
        replace HT1 := Lib.hid (row_later HT1.out hb)
        replace HI1 := Lib.hid (row_later HI1.out hb)
        clear hX5 hb hx
        obtain ⟨c0, c1, c2⟩ := HC.out u5 HBu.out
        go_wp2_with fail
        refine (key_any y u5).mono ?_
        rintro e w6 ⟨rfl, hb6⟩
        have HB6 := Lib.hid (HBu.out.trans (hb6.mono HBu.out.size))
        have hX6 := (hb6.block _ (lt_of_block HX5.out)).trans HX5.out
        replace HX5 := Lib.hid hX6
        replace HT1 := Lib.hid (row_later HT1.out hb6)
        replace HI1 := Lib.hid (row_later HI1.out hb6)
        clear hb6 hX6 c0 c1 c2 HBu
        have hb46 := Hb.out.trans (HB6.out.mono Hb.out.size)
        go_wp2_with fail
        refine (rmGetX_any (k := y) w6 (HR.out.later hb46) (HEn.out.later hb46)).mono ?_
        rintro e w7 ⟨x2, rfl, hpx2, ht2, hi2, hb7⟩
        clear hb46
        obtain ⟨is2, en2, far2, tree2, tou2, tv2, kv2⟩ := x2
        have hpp : plX ⟨is2, en2, far2, tree2, tou2, tv2, kv2⟩ = plX ⟨is, en, far, tree, tou, .slice at1 tree.length ct, .slice ak1 tou.length ck⟩ := by rw [hpx2, HPx.out, plR_get HP.out]
        simp only [plX, Prod.mk.injEq] at hpp
        obtain ⟨rfl, rfl, rfl, rfl, rfl⟩ := hpp
        simp only at ht2 hi2
        obtain ⟨at2, ct2, rfl⟩ := ht2.val
        obtain ⟨ak2, ck2, rfl, -, -, -⟩ := iv_open hi2
        rw [plR_has HP.out]
        generalize hasK L y = hb
        have hbb : (hb != hb) = false := by simp
        have HT2 := Lib.hid ht2
        have HI2 := Lib.hid hi2
        have HB7 := Lib.hid (HB6.out.trans (hb7.mono HB6.out.size))
        replace HX5 := Lib.hid ((hb7.block _ (lt_of_block HX5.out)).trans HX5.out)
        replace HT1 := Lib.hid (row_later HT1.out hb7)
        replace HI1 := Lib.hid (row_later HI1.out hb7)
        clear hpx2 ht2 hi2 hb7 HB6
        go_upto_region 9 with (fail)
        refine gen_world (S := fun v => Below w7.heap.size w7 v ∧ v.heap[w7.heap.size]? = some (.cells #[.bool is2, .int .i64 en2, .int .i64 far2, .slice at2 tree2.length ct2, .slice ak2 tou2.length ck2] 58 (0, 0))) (one_new w7 _) (fun u7 hu7 => ?_)
        obtain ⟨hb8, hx⟩ := hu7
        obtain ⟨X7, hX7⟩ : ∃ X, X = w7.heap.size := ⟨_, rfl⟩
        rw [← hX7] at hx ⊢
        have HX7 := Lib.hid hx
        have HBu := Lib.hid (HB7.out.trans (hb8.mono HB7.out.size))
        replace HX5 := Lib.hid ((hb8.block _ (lt_of_block HX5.out)).trans HX5.out)
        replace HT1 := Lib.hid (row_later HT1.out hb8)
        replace HI1 := Lib.hid (row_later HI1.out hb8)
        replace HT2 := Lib.hid (HT2.out.later hb8)
        replace HI2 := Lib.hid (HI2.out.later hb8)
        clear hX7 hb8 hx HB7
        obtain ⟨⟨x0, x1, x2, x3, x4⟩, -⟩ := five_box HX5.out
        obtain ⟨⟨y0, y1, y2, y3, y4⟩, -⟩ := five_box HX7.out
        go_wp2_with fail
        refine (sameFound_any is2 en2 far2 _ _ tree2 u7 (TwOwn.got HT1.out).1 HT2.out).mono ?_
        rintro e w8 ⟨rfl, hb8⟩
        have HB8 := Lib.hid (HBu.out.trans (hb8.mono HBu.out.size))
        replace HX5 := Lib.hid ((hb8.block _ (lt_of_block HX5.out)).trans HX5.out)
        replace HX7 := Lib.hid ((hb8.block _ (lt_of_block HX7.out)).trans HX7.out)
        replace HT1 := Lib.hid (row_later HT1.out hb8)
        replace HI1 := Lib.hid (row_later HI1.out hb8)
        replace HI2 := Lib.hid (HI2.out.later hb8)
        clear hb8 x0 x1 x2 x3 x4 y0 y1 y2 y3 y4 HBu
        obtain ⟨⟨x0, x1, x2, x3, x4⟩, -⟩ := five_box HX5.out
        obtain ⟨⟨y0, y1, y2, y3, y4⟩, -⟩ := five_box HX7.out
        go_wp2_with fail
        refine (sameInts_any _ _ tou2 w8 (IvOwn.got HI1.out).1 HI2.out).mono ?_
        rintro e w9 ⟨rfl, hb9⟩
        have HB9 := Lib.hid (HB8.out.trans (hb9.mono HB8.out.size))
        replace HX5 := Lib.hid ((hb9.block _ (lt_of_block HX5.out)).trans HX5.out)
        replace HT1 := Lib.hid (row_later HT1.out hb9)
        replace HI1 := Lib.hid (row_later HI1.out hb9)
        clear hb9 x0 x1 x2 x3 x4 y0 y1 y2 y3 y4 HB8
        obtain ⟨⟨x0, x1, x2, x3, x4⟩, -⟩ := five_box HX5.out
        go_wp2_with fail
        refine (over_any ⟨is2, en2, far2, tree2, tou2, .slice at1 tree2.length ct, .slice ak1 tou2.length ck⟩ w9 HT1.out HI1.out HL1.out.1 HL1.out.2).mono ?_
        rintro e w10 ⟨rfl, hk10⟩
        have HB10 := Lib.hid (HB9.out.trans (hk10.below HB9.out.size (fun k hk => hk.elim (fun h => (HT1.out.lt k h).1) (fun h => (HI1.out.lt k h).1))))
        clear hk10 x0 x1 x2 x3 x4
        go_wp2
        go_roundw
        case rel => exact ⟨j + 1, by omega, by go_num, Lib.hid (Hb.out.trans (HB10.out.mono Hb.out.size))⟩
        case measure => simp [intOf]; omega
      · obtain rfl : j = m := by omega
        have hlt2 : ¬ (j : Int) < j := by omega
        go_wp2
        go_ret
        exact ⟨rfl, HB.out.trans (Hb.out.mono HB.out.size)⟩
end Go.Proofs.YtpchjpmkkiopiaaGreat
