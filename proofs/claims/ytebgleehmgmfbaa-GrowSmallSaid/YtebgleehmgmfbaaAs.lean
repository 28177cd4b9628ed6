/-
  Is a store as it was begun?
-/
import Derived.Test.YtebgleehmgmfbaaBgn
namespace Go.Proofs.Ytebgleehmgmfbaa
open Go.RowKit Go.Lib

/-- a store whose trees are empty stays when twigs are written. -/
theorem StIs.stay [Watch] {base B : Nat} {T : List TypeId} {w w' : World} {s m : Nat} {sv : Value} {F : Live} (h : StIs base w s m sv F) (he : ∀ x ∈ F, x.2.tree = []) (hk : KeepT B T false w w') (h1 : 67 ∉ T) (h2 : 88 ∉ T) : StIs base w' s m sv F :=
  ⟨hk.cells h.blk h1, row_keepT h.row hk h2, hk.map h.map, fun x hx => by
    have := h.trees x hx
    rw [he x hx] at this ⊢
    exact ⟨this.1.empty, fun g off n cap e hn => by
      obtain ⟨ao, c, e2⟩ := this.1.val
      rw [e] at e2
      simp only [Value.slice.injEq, List.length_nil] at e2
      omega⟩, h.apart, h.wf, h.bs, h.bm, h.le⟩
theorem rd_one {f : Fd} (h1 : f.is = true) (h2 : f.lev = 1) : rdOf f 1 = (f.en, f.lev, f.tree, 3) := by simp [rdOf, h1, h2]

set_option maxRecDepth 100000 in
set_option maxHeartbeats 4000000 in
theorem as_any {base s m : Nat} {sv : Value} {F : Live} {k : Nat} (pv : Value) (w : World) (h : StIs base w s m sv F) (hg : BgF F k) (hp : PrsAt w pv (F.map (·.1))) (hl : F.length ≤ 1000) (hk : k ≤ 1000) :
    Calls Try.prog 12 #[.pointer (some ⟨s, 0, none⟩), pv] w fun e w' => e = .returned (.bool true) ∧ Below w.heap.size w w' := by
  obtain ⟨pao, pcap, rfl⟩ := hp.val
  have hn : (F.map (·.1)).length = F.length := List.length_map _
  rw [hn] at hp ⊢
  have H := Lib.hid h
  have HG := Lib.hid hg
  have HP := Lib.hid hp
  obtain ⟨q, hq⟩ : ∃ q, q = F.length := ⟨_, rfl⟩
  have Hq := Lib.hid hq
  have HLen := Lib.hid (fun (wq : World) (hb : Below w.heap.size w wq) => st_len wq (h.later hb))
  rw [← hq] at HP hl HLen ⊢
  clear h hg hp hn hq
  go_enter Try.func12, Try.ntmps12
  go_wp2_with fail
  refine (HLen.out w (Below.refl _ _)).mono ?_
  rintro e w1 ⟨rfl, rfl⟩
  go_wp2_with fail
  go_loopw [5, 6] (fun v5 v6 wr => ∃ (n : Int) (i : Nat), i ≤ q ∧ v5 = .int .i64 n ∧ v6 = .int .i64 i ∧ (∀ j (hj : j < F.length), i ≤ j → n ≤ F[j].2.en) ∧ Below w.heap.size w wr) (fun _ i _ => q - (intOf i).toNat)
  case atStart => exact ⟨0, 0, Nat.zero_le _, rfl, rfl, fun j hj _ => (HG.out.all _ (List.getElem_mem hj)).2.2.2.1, Below.refl _ _⟩
  case round =>
    obtain ⟨n, i, hi, rfl, rfl, hle, hbel⟩ := hrel
    have Hbel := Lib.hid hbel
    have HLe := Lib.hid hle
    clear hbel hle
    by_cases hlt : i < q
    · have hlt' : (i : Int) < q := by omega
      have hlg : i < F.length := by rw [← Hq.out]; exact hlt
      obtain ⟨b, off, rfl, hbl, l0, l1⟩ := HP.out.cells.2.2.2.2 i (by simpa using hlg)
      rw [List.getElem_map] at l0 l1
      have HMem := Lib.hid (List.getElem_mem hlg)
      have hall := HG.out.all _ HMem.out
      have hne := HLe.out i hlg (Nat.le_refl _)
      have hup : ∀ j (hj : j < F.length), i < j → F[i].2.en < F[j].2.en := fun j hj hij => List.pairwise_iff_getElem.1 HG.out.up i j hlg hj hij
      have HUp := Lib.hid hup
      generalize F[i] = x at *
      obtain ⟨p, f⟩ := x
      simp only at *
      have hbe : -9223372036854775808 ≤ f.en + 1 ∧ f.en + 1 ≤ 9223372036854775807 := by have := hall.2.2.2; omega
      have hw : IntKind.i64.wrap (f.en + 1) = f.en + 1 := IntWalk.i64_in _ hbe
      have hw9 : IntKind.i64.wrap ((i : Int) + 1) = (i : Int) + 1 := IntWalk.i64_in _ (by omega)
      have HSt := Lib.hid (H.out.later Hbel.out)
      have HRd := Lib.hid (rd_one hall.1 hall.2.1)
      have HTl := Lib.hid (show f.tree.length ≤ 1000000 by rw [hall.2.2.1]; simp)
      have hlev := Lib.hid hall.2.1
      have L0 := Lib.hid (cell_later Hbel.out l0)
      have L1 := Lib.hid (cell_later Hbel.out l1)
      have Hlt := Lib.hid hlt
      clear l0 l1 hlt hlg hbl hall hup
      go_upto_region 7 with (fail)
      go_cut [7, 8] (fun y7 y8 w1 => ∃ Y v', y7 = .pointer (some ⟨Y, 0, none⟩) ∧ y8 = .int .i64 3 ∧ Below w.heap.size w w1 ∧ w1.heap[Y]? = some (.cells #[.int .i64 f.en, .int .i64 f.lev, v'] 74 (0, 0)))
      case first =>
        have HDr := Lib.hid (Below.refl wr.heap.size wr).drew
        refine wp_region_held_drew (S := fun wq => Below wr.heap.size wr wq) (by kernel_rfl) HDr.out (fun hS => ?_)
        refine wpAnyH_take (i := 0) (oi := ⟨_, _, _, _, _, _⟩) (v := ?v1) rfl (by kernel_rfl) (by kernel_rfl) (by kernel_rfl) (fun _ _ _ h => h) ?y1 hS ?_
        case y1 => first | (refine Or.inr ⟨by rfl, ?_⟩; with_reducible rfl) | (refine Or.inl ⟨by rfl, ?_⟩; intro wS hSw; have l0S := cell_later hSw L0.out; have l1S := cell_later hSw L1.out; go_simp; try with_reducible rfl)
        simp only [Act.put, List.setIfInBounds_toArray, List.set_cons_zero, List.set_cons_succ]
        refine wpAnyH_take (i := 1) (oi := ⟨_, _, _, _, _, _⟩) (v := ?v2) rfl (by kernel_rfl) (by kernel_rfl) (by kernel_rfl) (fun _ _ _ h => h) ?y2 hS ?_
        case y2 => first | (refine Or.inr ⟨by rfl, ?_⟩; with_reducible rfl) | (refine Or.inl ⟨by rfl, ?_⟩; intro wS hSw; have l0S := cell_later hSw L0.out; have l1S := cell_later hSw L1.out; go_simp; try with_reducible rfl)
        simp only [Act.put, List.setIfInBounds_toArray, List.set_cons_zero, List.set_cons_succ]
        refine wpAnyH_take (i := 2) (oi := ⟨_, _, _, _, _, _⟩) (v := ?v3) rfl (by kernel_rfl) (by kernel_rfl) (by kernel_rfl) (fun _ _ _ h => h) ?y3 hS ?_
        case y3 => first | (refine Or.inr ⟨by rfl, ?_⟩; with_reducible rfl) | (refine Or.inl ⟨by rfl, ?_⟩; intro wS hSw; have l0S := cell_later hSw L0.out; have l1S := cell_later hSw L1.out; go_simp; try with_reducible rfl)
        simp only [Act.put, List.setIfInBounds_toArray, List.set_cons_zero, List.set_cons_succ]
        refine wpAnyH_take (i := 3) (oi := ⟨_, _, _, _, _, _⟩) (v := ?v4) rfl (by kernel_rfl) (by kernel_rfl) (by kernel_rfl) (fun _ _ _ h => h) ?y4 hS ?_
        case y4 => first | (refine Or.inr ⟨by rfl, ?_⟩; with_reducible rfl) | (refine Or.inl ⟨by rfl, ?_⟩; intro wS hSw; have l0S := cell_later hSw L0.out; have l1S := cell_later hSw L1.out; go_simp; try with_reducible rfl)
        simp only [Act.put, List.setIfInBounds_toArray, List.set_cons_zero, List.set_cons_succ]
        refine wpAnyH_take (i := 4) (oi := ⟨_, _, _, _, _, _⟩) (v := ?v5) rfl (by kernel_rfl) (by kernel_rfl) (by kernel_rfl) (fun _ _ _ h => h) ?y5 hS ?_
        case y5 => first | (refine Or.inr ⟨by rfl, ?_⟩; with_reducible rfl) | (refine Or.inl ⟨by rfl, ?_⟩; intro wS hSw; have l0S := cell_later hSw L0.out; have l1S := cell_later hSw L1.out; go_simp; try with_reducible rfl)
        simp only [Act.put, List.setIfInBounds_toArray, List.set_cons_zero, List.set_cons_succ]
        refine wpAnyH_take (i := 5) (oi := ⟨_, _, _, _, _, _⟩) (v := ?v6) rfl (by kernel_rfl) (by kernel_rfl) (by kernel_rfl) (fun _ _ _ h => h) ?y6 hS ?_
        case y6 => first | (refine Or.inr ⟨by rfl, ?_⟩; with_reducible rfl) | (refine Or.inl ⟨by rfl, ?_⟩; intro wS hSw; have l0S := cell_later hSw L0.out; have l1S := cell_later hSw L1.out; go_simp; try with_reducible rfl)
        simp only [Act.put, List.setIfInBounds_toArray, List.set_cons_zero, List.set_cons_succ]
        refine wpAnyH_take (i := 6) (oi := ⟨_, _, _, _, _, _⟩) (v := ?v7) rfl (by kernel_rfl) (by kernel_rfl) (by kernel_rfl) (fun _ _ _ h => h) ?y7 hS ?_
        case y7 => first | (refine Or.inr ⟨by rfl, ?_⟩; with_reducible rfl) | (refine Or.inl ⟨by rfl, ?_⟩; intro wS hSw; have l0S := cell_later hSw L0.out; have l1S := cell_later hSw L1.out; go_simp; try with_reducible rfl)
        simp only [Act.put, List.setIfInBounds_toArray, List.set_cons_zero, List.set_cons_succ]
        refine wpAnyH_take (i := 7) (oi := ⟨_, _, _, _, _, _⟩) (v := ?v8) rfl (by kernel_rfl) (by kernel_rfl) (by kernel_rfl) (fun _ _ _ h => h) ?y8 hS ?_
        case y8 => first | (refine Or.inr ⟨by rfl, ?_⟩; with_reducible rfl) | (refine Or.inl ⟨by rfl, ?_⟩; intro wS hSw; have l0S := cell_later hSw L0.out; have l1S := cell_later hSw L1.out; go_simp; try with_reducible rfl)
        simp only [Act.put, List.setIfInBounds_toArray, List.set_cons_zero, List.set_cons_succ]
        refine wpAnyH_take (i := 8) (oi := ⟨_, _, _, _, _, _⟩) (v := ?v9) rfl (by kernel_rfl) (by kernel_rfl) (by kernel_rfl) (fun _ _ _ h => h) ?y9 hS ?_
        case y9 => first | (refine Or.inr ⟨by rfl, ?_⟩; with_reducible rfl) | (refine Or.inl ⟨by rfl, ?_⟩; intro wS hSw; have l0S := cell_later hSw L0.out; have l1S := cell_later hSw L1.out; go_simp; try with_reducible rfl)
        simp only [Act.put, List.setIfInBounds_toArray, List.set_cons_zero, List.set_cons_succ]
        refine wpAnyH_take (i := 9) (oi := ⟨_, _, _, _, _, _⟩) (v := ?v10) rfl (by kernel_rfl) (by kernel_rfl) (by kernel_rfl) (fun _ _ _ h => h) ?y10 hS ?_
        case y10 => first | (refine Or.inr ⟨by rfl, ?_⟩; with_reducible rfl) | (refine Or.inl ⟨by rfl, ?_⟩; intro wS hSw; have l0S := cell_later hSw L0.out; have l1S := cell_later hSw L1.out; go_simp; try with_reducible rfl)
        simp only [Act.put, List.setIfInBounds_toArray, List.set_cons_zero, List.set_cons_succ]
        refine wpAnyH_take (i := 10) (oi := ⟨_, _, _, _, _, _⟩) (v := ?v11) rfl (by kernel_rfl) (by kernel_rfl) (by kernel_rfl) (fun _ _ _ h => h) ?y11 hS ?_
        case y11 => first | (refine Or.inr ⟨by rfl, ?_⟩; with_reducible rfl) | (refine Or.inl ⟨by rfl, ?_⟩; intro wS hSw; have l0S := cell_later hSw L0.out; have l1S := cell_later hSw L1.out; go_simp; try with_reducible rfl)
        simp only [Act.put, List.setIfInBounds_toArray, List.set_cons_zero, List.set_cons_succ]
        refine wpAnyH_ready (rs := [11, 15]) (by kernel_rfl) (by simp) ?_
        refine AllReadyH.cons (o := ⟨_, _, _, _, _, _⟩) rfl (fun K hK => ?_) (AllReadyH.cons (o := ⟨_, _, _, _, _, _⟩) rfl (fun K hK => ?_) AllReadyH.nil)
        · go_simp
          refine (st_Read 1 _ (HSt.out.later HDr.out) HMem.out HTl.out).mono ?_
          rintro e wx ⟨⟨v', rfl, hT⟩, hb⟩
          rw [HRd.out]
          rw [HRd.out] at hT
          obtain ⟨tao, tcap, rfl⟩ := hT.1.val
          go_wp2_with fail
          have hb := HDr.out.trans hb
          refine hK.out _ _ (hb) (fun _ => ?_)
          clear hK K
          try simp only [Act.put, List.setIfInBounds_toArray, List.set_cons_zero, List.set_cons_succ]
          refine wpAnyH_take (i := 12) (oi := ⟨_, _, _, _, _, _⟩) (v := ?v12) rfl (by kernel_rfl) (by kernel_rfl) (by kernel_rfl) (fun _ _ _ h => h) ?y12 hb ?_
          case y12 => first | (refine Or.inr ⟨by rfl, ?_⟩; with_reducible rfl) | (refine Or.inl ⟨by rfl, ?_⟩; intro wS hSw; go_simp; try with_reducible rfl)
          simp only [Act.put, List.setIfInBounds_toArray, List.set_cons_zero, List.set_cons_succ]
          refine wpAnyH_take (i := 13) (oi := ⟨_, _, _, _, _, _⟩) (v := ?v13) rfl (by kernel_rfl) (by kernel_rfl) (by kernel_rfl) (fun _ _ _ h => h) ?y13 hb ?_
          case y13 => first | (refine Or.inr ⟨by rfl, ?_⟩; with_reducible rfl) | (refine Or.inl ⟨by rfl, ?_⟩; intro wS hSw; go_simp; try with_reducible rfl)
          simp only [Act.put, List.setIfInBounds_toArray, List.set_cons_zero, List.set_cons_succ]
          refine wpAnyH_take (i := 14) (oi := ⟨_, _, _, _, _, _⟩) (v := ?v14) rfl (by kernel_rfl) (by kernel_rfl) (by kernel_rfl) (fun _ _ _ h => h) ?y14 hb ?_
          case y14 => first | (refine Or.inr ⟨by rfl, ?_⟩; with_reducible rfl) | (refine Or.inl ⟨by rfl, ?_⟩; intro wS hSw; go_simp; try with_reducible rfl)
          simp only [Act.put, List.setIfInBounds_toArray, List.set_cons_zero, List.set_cons_succ]
          refine wpAnyH_ready (rs := [15]) (by kernel_rfl) (by simp) ?_
          refine AllReadyH.cons (o := ⟨_, _, _, _, _, _⟩) rfl (fun K hK => ?_) AllReadyH.nil
          go_simp
          refine hK.out _ _ (hb.alloc hb.size _) (fun _ => ?_)
          clear hK K
          try simp only [Act.put, List.setIfInBounds_toArray, List.set_cons_zero, List.set_cons_succ]
          have hx := heap_alloc_new wx (.cells #[.int .i64 0, .int .i64 0, .slice none 0 0] 74)
          have hbx := hb.alloc hb.size (.cells #[.int .i64 0, .int .i64 0, .slice none 0 0] 74)
          have hYx : wr.heap.size ≤ wx.heap.size := hb.size
          obtain ⟨Y, hY⟩ : ∃ Y, Y = wx.heap.size := ⟨_, rfl⟩
          rw [← hY] at hx hYx ⊢
          clear hY hT
          generalize wx.alloc (.cells #[.int .i64 0, .int .i64 0, .slice none 0 0] 74) = wy at *
          obtain ⟨d0, d1, d2, g0, g1, g2⟩ := three_box hx
          have HX := Lib.hid hx
          clear hx
          refine wpAnyH_ready (rs := [16]) (by kernel_rfl) (by simp) ?_
          refine AllReadyH.cons (o := ⟨_, _, _, _, _, _⟩) rfl (fun K hK => ?_) AllReadyH.nil
          go_simp
          obtain ⟨q, hq⟩ := set3 HX.out (.int .i64 f.en) (.int .i64 f.lev) (.slice tao f.tree.length tcap)
          have hbf := Below.keeps hbx hq hYx
          refine hK.out _ _ (hbf) (fun _ => ?_)
          clear hK K
          try simp only [Act.put, List.setIfInBounds_toArray, List.set_cons_zero, List.set_cons_succ]
          refine wpAnyH_take (i := 17) (oi := ⟨_, _, _, _, _, _⟩) (v := ?v15) rfl (by kernel_rfl) (by kernel_rfl) (by kernel_rfl) (fun _ _ _ h => h) ?y15 hbf ?_
          case y15 => first | (refine Or.inr ⟨by rfl, ?_⟩; with_reducible rfl) | (refine Or.inl ⟨by rfl, ?_⟩; intro wS hSw; go_simp; try with_reducible rfl)
          simp only [Act.put, List.setIfInBounds_toArray, List.set_cons_zero, List.set_cons_succ]
          refine wpAnyH_done (by kernel_rfl) ?_ _
          go_wp2_with fail
          go_meet
          exact ⟨_, _, rfl, rfl, Hbel.out.trans (hbf.mono Hbel.out.size), q⟩
        · go_simp
          refine hK.out _ _ (HDr.out.alloc (Nat.le_refl _) _) (fun _ => ?_)
          clear hK K
          try simp only [Act.put, List.setIfInBounds_toArray, List.set_cons_zero, List.set_cons_succ]
          refine wpAnyH_ready (rs := [11]) (by kernel_rfl) (by simp) ?_
          refine AllReadyH.cons (o := ⟨_, _, _, _, _, _⟩) rfl (fun K hK => ?_) AllReadyH.nil
          go_simp
          refine (st_Read 1 _ (HSt.out.later (HDr.out.alloc (Nat.le_refl _) (.cells #[.int .i64 0, .int .i64 0, .slice none 0 0] 74))) HMem.out HTl.out).mono ?_
          rintro e wx ⟨⟨v', rfl, hT⟩, hb⟩
          rw [HRd.out]
          rw [HRd.out] at hT
          obtain ⟨tao, tcap, rfl⟩ := hT.1.val
          go_wp2_with fail
          have hx := (hb.block wr.heap.size (by simp)).trans (heap_alloc_new wr.drew (.cells #[.int .i64 0, .int .i64 0, .slice none 0 0] 74))
          have hbx := (HDr.out.alloc (Nat.le_refl _) (.cells #[.int .i64 0, .int .i64 0, .slice none 0 0] 74)).trans (hb.mono (by simp))
          refine hK.out _ _ (hbx) (fun _ => ?_)
          clear hK K
          try simp only [Act.put, List.setIfInBounds_toArray, List.set_cons_zero, List.set_cons_succ]
          refine wpAnyH_take (i := 12) (oi := ⟨_, _, _, _, _, _⟩) (v := ?v16) rfl (by kernel_rfl) (by kernel_rfl) (by kernel_rfl) (fun _ _ _ h => h) ?y16 hbx ?_
          case y16 => first | (refine Or.inr ⟨by rfl, ?_⟩; with_reducible rfl) | (refine Or.inl ⟨by rfl, ?_⟩; intro wS hSw; go_simp; try with_reducible rfl)
          simp only [Act.put, List.setIfInBounds_toArray, List.set_cons_zero, List.set_cons_succ]
          refine wpAnyH_take (i := 13) (oi := ⟨_, _, _, _, _, _⟩) (v := ?v17) rfl (by kernel_rfl) (by kernel_rfl) (by kernel_rfl) (fun _ _ _ h => h) ?y17 hbx ?_
          case y17 => first | (refine Or.inr ⟨by rfl, ?_⟩; with_reducible rfl) | (refine Or.inl ⟨by rfl, ?_⟩; intro wS hSw; go_simp; try with_reducible rfl)
          simp only [Act.put, List.setIfInBounds_toArray, List.set_cons_zero, List.set_cons_succ]
          refine wpAnyH_take (i := 14) (oi := ⟨_, _, _, _, _, _⟩) (v := ?v18) rfl (by kernel_rfl) (by kernel_rfl) (by kernel_rfl) (fun _ _ _ h => h) ?y18 hbx ?_
          case y18 => first | (refine Or.inr ⟨by rfl, ?_⟩; with_reducible rfl) | (refine Or.inl ⟨by rfl, ?_⟩; intro wS hSw; go_simp; try with_reducible rfl)
          simp only [Act.put, List.setIfInBounds_toArray, List.set_cons_zero, List.set_cons_succ]
          have hYx := Nat.le_refl wr.heap.size
          clear hT
          generalize wx = wy at *
          obtain ⟨d0, d1, d2, g0, g1, g2⟩ := three_box hx
          have HX := Lib.hid hx
          clear hx
          refine wpAnyH_ready (rs := [16]) (by kernel_rfl) (by simp) ?_
          refine AllReadyH.cons (o := ⟨_, _, _, _, _, _⟩) rfl (fun K hK => ?_) AllReadyH.nil
          go_simp
          obtain ⟨q, hq⟩ := set3 HX.out (.int .i64 f.en) (.int .i64 f.lev) (.slice tao f.tree.length tcap)
          have hbf := Below.keeps hbx hq hYx
          refine hK.out _ _ (hbf) (fun _ => ?_)
          clear hK K
          try simp only [Act.put, List.setIfInBounds_toArray, List.set_cons_zero, List.set_cons_succ]
          refine wpAnyH_take (i := 17) (oi := ⟨_, _, _, _, _, _⟩) (v := ?v19) rfl (by kernel_rfl) (by kernel_rfl) (by kernel_rfl) (fun _ _ _ h => h) ?y19 hbf ?_
          case y19 => first | (refine Or.inr ⟨by rfl, ?_⟩; with_reducible rfl) | (refine Or.inl ⟨by rfl, ?_⟩; intro wS hSw; go_simp; try with_reducible rfl)
          simp only [Act.put, List.setIfInBounds_toArray, List.set_cons_zero, List.set_cons_succ]
          refine wpAnyH_done (by kernel_rfl) ?_ _
          go_wp2_with fail
          go_meet
          exact ⟨_, _, rfl, rfl, Hbel.out.trans (hbf.mono Hbel.out.size), q⟩
      case rest =>
        obtain ⟨Y, v', rfl, rfl, hbc, hY⟩ := hcut
        obtain ⟨d0, d1, -⟩ := three_box hY
        have hne' : ¬ f.en < n := by omega
        rw [hlev.out] at d1
        have HBc := Lib.hid hbc
        clear hbc hY HSt HRd HTl L0 L1 hne hbe
        go_wp2_with fail
        go_roundw
        case rel => exact ⟨f.en + 1, i + 1, Hlt.out, rfl, by go_num, fun j hj hij => by have := HUp.out j hj (by omega); omega, HBc.out⟩
        case measure => have := Hlt.out; simp [intOf]; omega
    · have hlt' : ¬ (i : Int) < q := by omega
      clear hi hlt
      rcases List.eq_nil_or_concat F with hF | ⟨F', x, hF⟩
      · have hq0 : decide ((0 : Int) < (q : Int)) = false := by have := Hq.out; rw [hF] at this; simp at this; simp; omega
        have hq1 : decide (0 < q) = false := by have := Hq.out; rw [hF] at this; simp at this; simp; omega
        have HS0 : StIs base wr s m sv [] := by have := H.out.later Hbel.out; rw [hF] at this; exact this
        have HLa := Lib.hid (st_Last0 wr HS0)
        clear hF HS0
        go_wp2_with fail
        refine HLa.out.mono ?_
        rintro e w2 ⟨rfl, hb2⟩
        have HB2 := Lib.hid hb2
        clear hb2
        go_wp2
        go_ret
        exact ⟨rfl, Hbel.out.trans (HB2.out.mono Hbel.out.size)⟩
      · obtain ⟨p, f⟩ := x
        have hqe : q = F'.length + 1 := by have := Hq.out; rw [hF] at this; simpa using this
        have hq0 : decide ((0 : Int) < (q : Int)) = true := by simp; omega
        have hq1 : decide (0 < q) = true := by simp; omega
        have HS0 : StIs base wr s m sv (F' ++ [(p, f)]) := by have := H.out.later Hbel.out; rw [hF] at this; simpa using this
        have HLa := Lib.hid (st_Last wr HS0)
        obtain ⟨j, hj⟩ : ∃ j, j = F'.length := ⟨_, rfl⟩
        have hjF : j < (F.map (·.1)).length := by rw [hF]; simp; omega
        obtain ⟨b, off, rfl, hbl, l0, l1⟩ := HP.out.cells.2.2.2.2 j hjF
        have hpj : (F.map (·.1))[j]'hjF = p := by simp [hF, hj]
        rw [hpj] at l0 l1
        have hw : IntKind.i64.wrap ((q : Int) - 1) = (j : Int) := (IntWalk.i64_in _ (by omega)).trans (by omega)
        have hjq : (j : Int) < (q : Int) := by omega
        have L0 := Lib.hid (cell_later Hbel.out l0)
        have L1 := Lib.hid (cell_later Hbel.out l1)
        clear hF HS0 hjF hpj l0 l1 hbl hj hqe
        go_wp2_with fail
        refine HLa.out.mono ?_
        rintro e w2 ⟨rfl, hb2⟩
        have HB2 := Lib.hid hb2
        have l0 := cell_later hb2 L0.out
        have l1 := cell_later hb2 L1.out
        clear hb2
        go_wp2
        go_ret
        exact ⟨rfl, Hbel.out.trans (HB2.out.mono Hbel.out.size)⟩
end Go.Proofs.Ytebgleehmgmfbaa
