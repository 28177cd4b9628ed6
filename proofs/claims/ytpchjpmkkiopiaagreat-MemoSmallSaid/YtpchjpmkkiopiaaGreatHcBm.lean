import Derived.Test.YtpchjpmkkiopiaaGreatHcAm
namespace Go.Proofs.YtpchjpmkkiopiaaGreat
open Go.RowKit Go.Lib

theorem copy_end {base r m : Nat} {t : Int} {lv : Value} {L M : List En} {u wx wy : World} {v1 : Value} (hrow : RowIs' base u r m lv L) (hh : Hp (pos L) L.length) (htn : ∀ e ∈ L, e.turn < t) (hp : L.Perm M) (ht : Trn t M)
    (hx : u.heap.size ≤ wx.heap.size) (hr1 : wx.ownsRow u.heap.size 133 3 v1 L.length (L.flatMap enc)) (hb2 : Below wx.heap.size wx wy) (hm2 : MapFn wy wx.heap.size L.length (whr L)) (hS2 : Below u.heap.size u wy)
    (ha1 : Below wy.heap.size wy (wy.alloc (.cells #[v1, .map (some wx.heap.size)] 111 (0, 0)))) (hg1 : (wy.alloc (.cells #[v1, .map (some wx.heap.size)] 111 (0, 0))).heap[wy.heap.size]? = some (.cells #[v1, .map (some wx.heap.size)] 111 (0, 0)))
    (ha2 : Below (wy.alloc (.cells #[v1, .map (some wx.heap.size)] 111 (0, 0))).heap.size (wy.alloc (.cells #[v1, .map (some wx.heap.size)] 111 (0, 0))) ((wy.alloc (.cells #[v1, .map (some wx.heap.size)] 111 (0, 0))).alloc (.cells #[.pointer (some ⟨wy.heap.size, 0, none⟩), .int .i64 t] 113 (0, 0))))
    (hg2 : ((wy.alloc (.cells #[v1, .map (some wx.heap.size)] 111 (0, 0))).alloc (.cells #[.pointer (some ⟨wy.heap.size, 0, none⟩), .int .i64 t] 113 (0, 0))).heap[(wy.alloc (.cells #[v1, .map (some wx.heap.size)] 111 (0, 0))).heap.size]? = some (.cells #[.pointer (some ⟨wy.heap.size, 0, none⟩), .int .i64 t] 113 (0, 0)))
    (hS4 : Below u.heap.size u ((wy.alloc (.cells #[v1, .map (some wx.heap.size)] 111 (0, 0))).alloc (.cells #[.pointer (some ⟨wy.heap.size, 0, none⟩), .int .i64 t] 113 (0, 0)))) :
    @Qu noWatch u.heap.size ((wy.alloc (.cells #[v1, .map (some wx.heap.size)] 111 (0, 0))).alloc (.cells #[.pointer (some ⟨wy.heap.size, 0, none⟩), .int .i64 t] 113 (0, 0))) (wy.heap.size + 1) t M ∧ Below u.heap.size u ((wy.alloc (.cells #[v1, .map (some wx.heap.size)] 111 (0, 0))).alloc (.cells #[.pointer (some ⟨wy.heap.size, 0, none⟩), .int .i64 t] 113 (0, 0))) := by
  obtain ⟨h5, h6, h7⟩ := hrow
  have hsz : (wy.alloc (.cells #[v1, .map (some wx.heap.size)] 111 (0, 0))).heap.size = wy.heap.size + 1 := by simp
  have hab : Below wy.heap.size wy ((wy.alloc (.cells #[v1, .map (some wx.heap.size)] 111 (0, 0))).alloc (.cells #[.pointer (some ⟨wy.heap.size, 0, none⟩), .int .i64 t] 113 (0, 0))) := ha1.trans (ha2.mono (by omega))
  have hbx := hb2.trans (hab.mono hb2.size)
  rw [hsz] at hg2
  have hyx := hb2.size
  have hn : ∀ k, ¬ @Watch.W noWatch k := fun _ h => h
  exact ⟨⟨⟨wy.heap.size, wx.heap.size, v1, L, ⟨hg2, ⟨(ha2.block _ (by omega)).trans hg1, row_kept (S := fun _ => False) hr1 (Keeps.ofNew hbx _) (fun _ _ _ h => h), hm2.keeps (S := fun _ => False) (Keeps.ofNew hab _) (fun h => h), h5, h6, by omega, hx, h7, hn _, hn _, fun k _ => hn k, Nat.zero_le _⟩, hh, htn, by omega⟩, hp⟩, ht⟩, hS4⟩
set_option maxRecDepth 100000 in
set_option maxHeartbeats 4000000 in
theorem quCopy [Watch] {base q : Nat} {t : Int} {M : List En} (u : World) (h : Qu base u q t M) :
    Calls Tryz.prog 58 #[.pointer (some ⟨q, 0, none⟩)] u fun e w' => ∃ o, e = .returned (.pointer (some ⟨o, 0, none⟩)) ∧ @Qu noWatch u.heap.size w' o t M ∧ Below u.heap.size u w' := by
  have HM := Lib.hid (quMade u h)
  have htrn := h.trn
  obtain ⟨⟨r, m, lv, L, h1, h2⟩, -⟩ := h
  obtain ⟨c0, c1⟩ := two_box h1.blk
  obtain ⟨d0, d1, -⟩ := h1.row.cells
  have C0 := Lib.hid c0
  have C1 := Lib.hid c1
  have D0 := Lib.hid d0
  have D1 := Lib.hid d1
  have HRw := Lib.hid (show ∀ wq, Below u.heap.size u wq → wq.ownsRow base 133 3 lv L.length (L.flatMap enc) from fun wq hb => row_kept (S := fun _ => False) h1.row.row (Keeps.ofNew hb _) (fun _ _ _ h => h))
  have HFn := Lib.hid (show ∀ wq, Below u.heap.size u wq → MapFn wq m L.length (whr L) from fun wq hb => h1.row.fn.keeps (S := fun _ => False) (Keeps.ofNew hb _) (fun h => h))
  have HEnd := Lib.hid (fun v1 wx wy => copy_end (base := base) (r := r) (m := m) (lv := lv) (u := u) (wx := wx) (wy := wy) (v1 := v1) ⟨h1.row.once, h1.row.wf, h1.row.le⟩ h1.hp h1.trn h2 htrn)
  obtain ⟨ao, cap, rfl⟩ := own_val h1.row.row
  have HLe := Lib.hid h1.row.le
  clear h1 h2 htrn c0 c1 d0 d1
  go_enter Tryz.func58, Tryz.ntmps58
  go_wp2_with fail
  refine HM.out.mono ?_
  rintro e w1 ⟨rfl, rfl⟩
  go_upto_region 3 with (fail)
  refine wp_region_held_drew (S := fun wq => Below u.heap.size u wq) (by kernel_rfl) ((Below.refl _ _).drew) (fun hS => ?_)
  refine wpAnyH_take (i := 0) (oi := ⟨_, _, _, _, _, _⟩) (v := ?v1) rfl (by kernel_rfl) (by kernel_rfl) (by kernel_rfl) (fun _ _ _ h => h) ?y1 hS ?_
  case y1 => first | (refine Or.inr ⟨by rfl, ?_⟩; with_reducible rfl) | (refine Or.inl ⟨by rfl, ?_⟩; intro wS hSw; have c0S := cell_later hSw C0.out; have c1S := cell_later hSw C1.out; have d0S := cell_later hSw D0.out; have d1S := cell_later hSw D1.out; go_simp; try with_reducible rfl)
  simp only [Act.put, List.setIfInBounds_toArray, List.set_cons_zero, List.set_cons_succ]
  refine wpAnyH_take (i := 1) (oi := ⟨_, _, _, _, _, _⟩) (v := ?v2) rfl (by kernel_rfl) (by kernel_rfl) (by kernel_rfl) (fun _ _ _ h => h) ?y2 hS ?_
  case y2 => first | (refine Or.inr ⟨by rfl, ?_⟩; with_reducible rfl) | (refine Or.inl ⟨by rfl, ?_⟩; intro wS hSw; have c0S := cell_later hSw C0.out; have c1S := cell_later hSw C1.out; have d0S := cell_later hSw D0.out; have d1S := cell_later hSw D1.out; go_simp; try with_reducible rfl)
  simp only [Act.put, List.setIfInBounds_toArray, List.set_cons_zero, List.set_cons_succ]
  refine wpAnyH_take (i := 2) (oi := ⟨_, _, _, _, _, _⟩) (v := ?v3) rfl (by kernel_rfl) (by kernel_rfl) (by kernel_rfl) (fun _ _ _ h => h) ?y3 hS ?_
  case y3 => first | (refine Or.inr ⟨by rfl, ?_⟩; with_reducible rfl) | (refine Or.inl ⟨by rfl, ?_⟩; intro wS hSw; have c0S := cell_later hSw C0.out; have c1S := cell_later hSw C1.out; have d0S := cell_later hSw D0.out; have d1S := cell_later hSw D1.out; go_simp; try with_reducible rfl)
  simp only [Act.put, List.setIfInBounds_toArray, List.set_cons_zero, List.set_cons_succ]
  refine wpAnyH_take (i := 3) (oi := ⟨_, _, _, _, _, _⟩) (v := ?v4) rfl (by kernel_rfl) (by kernel_rfl) (by kernel_rfl) (fun _ _ _ h => h) ?y4 hS ?_
  case y4 => first | (refine Or.inr ⟨by rfl, ?_⟩; with_reducible rfl) | (refine Or.inl ⟨by rfl, ?_⟩; intro wS hSw; have c0S := cell_later hSw C0.out; have c1S := cell_later hSw C1.out; have d0S := cell_later hSw D0.out; have d1S := cell_later hSw D1.out; go_simp; try with_reducible rfl)
  simp only [Act.put, List.setIfInBounds_toArray, List.set_cons_zero, List.set_cons_succ]
  refine wpAnyH_take (i := 4) (oi := ⟨_, _, _, _, _, _⟩) (v := ?v5) rfl (by kernel_rfl) (by kernel_rfl) (by kernel_rfl) (fun _ _ _ h => h) ?y5 hS ?_
  case y5 => first | (refine Or.inr ⟨by rfl, ?_⟩; with_reducible rfl) | (refine Or.inl ⟨by rfl, ?_⟩; intro wS hSw; have c0S := cell_later hSw C0.out; have c1S := cell_later hSw C1.out; have d0S := cell_later hSw D0.out; have d1S := cell_later hSw D1.out; go_simp; try with_reducible rfl)
  simp only [Act.put, List.setIfInBounds_toArray, List.set_cons_zero, List.set_cons_succ]
  refine wpAnyH_take (i := 5) (oi := ⟨_, _, _, _, _, _⟩) (v := ?v6) rfl (by kernel_rfl) (by kernel_rfl) (by kernel_rfl) (fun _ _ _ h => h) ?y6 hS ?_
  case y6 => first | (refine Or.inr ⟨by rfl, ?_⟩; with_reducible rfl) | (refine Or.inl ⟨by rfl, ?_⟩; intro wS hSw; have c0S := cell_later hSw C0.out; have c1S := cell_later hSw C1.out; have d0S := cell_later hSw D0.out; have d1S := cell_later hSw D1.out; go_simp; try with_reducible rfl)
  simp only [Act.put, List.setIfInBounds_toArray, List.set_cons_zero, List.set_cons_succ]
  refine wpAnyH_take (i := 6) (oi := ⟨_, _, _, _, _, _⟩) (v := ?v7) rfl (by kernel_rfl) (by kernel_rfl) (by kernel_rfl) (fun _ _ _ h => h) ?y7 hS ?_
  case y7 => first | (refine Or.inr ⟨by rfl, ?_⟩; with_reducible rfl) | (refine Or.inl ⟨by rfl, ?_⟩; intro wS hSw; have c0S := cell_later hSw C0.out; have c1S := cell_later hSw C1.out; have d0S := cell_later hSw D0.out; have d1S := cell_later hSw D1.out; go_simp; try with_reducible rfl)
  simp only [Act.put, List.setIfInBounds_toArray, List.set_cons_zero, List.set_cons_succ]
  refine wpAnyH_take (i := 8) (oi := ⟨_, _, _, _, _, _⟩) (v := ?v8) rfl (by kernel_rfl) (by kernel_rfl) (by kernel_rfl) (fun _ _ _ h => h) ?y8 hS ?_
  case y8 => first | (refine Or.inr ⟨by rfl, ?_⟩; with_reducible rfl) | (refine Or.inl ⟨by rfl, ?_⟩; intro wS hSw; have c0S := cell_later hSw C0.out; have c1S := cell_later hSw C1.out; have d0S := cell_later hSw D0.out; have d1S := cell_later hSw D1.out; go_simp; try with_reducible rfl)
  simp only [Act.put, List.setIfInBounds_toArray, List.set_cons_zero, List.set_cons_succ]
  refine wpAnyH_take (i := 9) (oi := ⟨_, _, _, _, _, _⟩) (v := ?v9) rfl (by kernel_rfl) (by kernel_rfl) (by kernel_rfl) (fun _ _ _ h => h) ?y9 hS ?_
  case y9 => first | (refine Or.inr ⟨by rfl, ?_⟩; with_reducible rfl) | (refine Or.inl ⟨by rfl, ?_⟩; intro wS hSw; have c0S := cell_later hSw C0.out; have c1S := cell_later hSw C1.out; have d0S := cell_later hSw D0.out; have d1S := cell_later hSw D1.out; go_simp; try with_reducible rfl)
  simp only [Act.put, List.setIfInBounds_toArray, List.set_cons_zero, List.set_cons_succ]
  refine wpAnyH_take (i := 10) (oi := ⟨_, _, _, _, _, _⟩) (v := ?v10) rfl (by kernel_rfl) (by kernel_rfl) (by kernel_rfl) (fun _ _ _ h => h) ?y10 hS ?_
  case y10 => first | (refine Or.inr ⟨by rfl, ?_⟩; with_reducible rfl) | (refine Or.inl ⟨by rfl, ?_⟩; intro wS hSw; have c0S := cell_later hSw C0.out; have c1S := cell_later hSw C1.out; have d0S := cell_later hSw D0.out; have d1S := cell_later hSw D1.out; go_simp; try with_reducible rfl)
  simp only [Act.put, List.setIfInBounds_toArray, List.set_cons_zero, List.set_cons_succ]
  refine wpAnyH_take (i := 11) (oi := ⟨_, _, _, _, _, _⟩) (v := ?v11) rfl (by kernel_rfl) (by kernel_rfl) (by kernel_rfl) (fun _ _ _ h => h) ?y11 hS ?_
  case y11 => first | (refine Or.inr ⟨by rfl, ?_⟩; with_reducible rfl) | (refine Or.inl ⟨by rfl, ?_⟩; intro wS hSw; have c0S := cell_later hSw C0.out; have c1S := cell_later hSw C1.out; have d0S := cell_later hSw D0.out; have d1S := cell_later hSw D1.out; go_simp; try with_reducible rfl)
  simp only [Act.put, List.setIfInBounds_toArray, List.set_cons_zero, List.set_cons_succ]
  refine wpAnyH_take (i := 12) (oi := ⟨_, _, _, _, _, _⟩) (v := ?v12) rfl (by kernel_rfl) (by kernel_rfl) (by kernel_rfl) (fun _ _ _ h => h) ?y12 hS ?_
  case y12 => first | (refine Or.inr ⟨by rfl, ?_⟩; with_reducible rfl) | (refine Or.inl ⟨by rfl, ?_⟩; intro wS hSw; have c0S := cell_later hSw C0.out; have c1S := cell_later hSw C1.out; have d0S := cell_later hSw D0.out; have d1S := cell_later hSw D1.out; go_simp; try with_reducible rfl)
  simp only [Act.put, List.setIfInBounds_toArray, List.set_cons_zero, List.set_cons_succ]
  refine wpAnyH_take (i := 13) (oi := ⟨_, _, _, _, _, _⟩) (v := ?v13) rfl (by kernel_rfl) (by kernel_rfl) (by kernel_rfl) (fun _ _ _ h => h) ?y13 hS ?_
  case y13 => first | (refine Or.inr ⟨by rfl, ?_⟩; with_reducible rfl) | (refine Or.inl ⟨by rfl, ?_⟩; intro wS hSw; have c0S := cell_later hSw C0.out; have c1S := cell_later hSw C1.out; have d0S := cell_later hSw D0.out; have d1S := cell_later hSw D1.out; go_simp; try with_reducible rfl)
  simp only [Act.put, List.setIfInBounds_toArray, List.set_cons_zero, List.set_cons_succ]
  refine wpAnyH_take (i := 14) (oi := ⟨_, _, _, _, _, _⟩) (v := ?v14) rfl (by kernel_rfl) (by kernel_rfl) (by kernel_rfl) (fun _ _ _ h => h) ?y14 hS ?_
  case y14 => first | (refine Or.inr ⟨by rfl, ?_⟩; with_reducible rfl) | (refine Or.inl ⟨by rfl, ?_⟩; intro wS hSw; have c0S := cell_later hSw C0.out; have c1S := cell_later hSw C1.out; have d0S := cell_later hSw D0.out; have d1S := cell_later hSw D1.out; go_simp; try with_reducible rfl)
  simp only [Act.put, List.setIfInBounds_toArray, List.set_cons_zero, List.set_cons_succ]
  refine wpAnyH_take (i := 18) (oi := ⟨_, _, _, _, _, _⟩) (v := ?v15) rfl (by kernel_rfl) (by kernel_rfl) (by kernel_rfl) (fun _ _ _ h => h) ?y15 hS ?_
  case y15 => first | (refine Or.inr ⟨by rfl, ?_⟩; with_reducible rfl) | (refine Or.inl ⟨by rfl, ?_⟩; intro wS hSw; have c0S := cell_later hSw C0.out; have c1S := cell_later hSw C1.out; have d0S := cell_later hSw D0.out; have d1S := cell_later hSw D1.out; go_simp; try with_reducible rfl)
  simp only [Act.put, List.setIfInBounds_toArray, List.set_cons_zero, List.set_cons_succ]
  refine wpAnyH_take (i := 19) (oi := ⟨_, _, _, _, _, _⟩) (v := ?v16) rfl (by kernel_rfl) (by kernel_rfl) (by kernel_rfl) (fun _ _ _ h => h) ?y16 hS ?_
  case y16 => first | (refine Or.inr ⟨by rfl, ?_⟩; with_reducible rfl) | (refine Or.inl ⟨by rfl, ?_⟩; intro wS hSw; have c0S := cell_later hSw C0.out; have c1S := cell_later hSw C1.out; have d0S := cell_later hSw D0.out; have d1S := cell_later hSw D1.out; go_simp; try with_reducible rfl)
  simp only [Act.put, List.setIfInBounds_toArray, List.set_cons_zero, List.set_cons_succ]
  refine wpAnyH_take (i := 20) (oi := ⟨_, _, _, _, _, _⟩) (v := ?v17) rfl (by kernel_rfl) (by kernel_rfl) (by kernel_rfl) (fun _ _ _ h => h) ?y17 hS ?_
  case y17 => first | (refine Or.inr ⟨by rfl, ?_⟩; with_reducible rfl) | (refine Or.inl ⟨by rfl, ?_⟩; intro wS hSw; have c0S := cell_later hSw C0.out; have c1S := cell_later hSw C1.out; have d0S := cell_later hSw D0.out; have d1S := cell_later hSw D1.out; go_simp; try with_reducible rfl)
  simp only [Act.put, List.setIfInBounds_toArray, List.set_cons_zero, List.set_cons_succ]
  refine wpAnyH_take (i := 21) (oi := ⟨_, _, _, _, _, _⟩) (v := ?v18) rfl (by kernel_rfl) (by kernel_rfl) (by kernel_rfl) (fun _ _ _ h => h) ?y18 hS ?_
  case y18 => first | (refine Or.inr ⟨by rfl, ?_⟩; with_reducible rfl) | (refine Or.inl ⟨by rfl, ?_⟩; intro wS hSw; have c0S := cell_later hSw C0.out; have c1S := cell_later hSw C1.out; have d0S := cell_later hSw D0.out; have d1S := cell_later hSw D1.out; go_simp; try with_reducible rfl)
  simp only [Act.put, List.setIfInBounds_toArray, List.set_cons_zero, List.set_cons_succ]
  refine wpAnyH_ready (rs := [7]) (by kernel_rfl) (by simp) ?_
  refine AllReadyH.cons (o := ⟨_, _, _, _, _, _⟩) rfl (fun K hK => ?_) AllReadyH.nil
  go_simp
  refine (cloneRow _ HLe.out (HRw.out _ hS)).mono ?_
  rintro e wx ⟨v1, rfl, hr1, hb1⟩
  obtain ⟨a1, cp1, rfl⟩ := own_val hr1
  have hS1 : Below u.heap.size u wx := hS.trans (hb1.mono hS.size)
  go_wp2_with fail
  refine hK.out _ _ (hS1) (fun _ => ?_)
  clear hK K
  try simp only [Act.put, List.setIfInBounds_toArray, List.set_cons_zero, List.set_cons_succ]
  refine wpAnyH_ready (rs := [15]) (by kernel_rfl) (by simp) ?_
  refine AllReadyH.cons (o := ⟨_, _, _, _, _, _⟩) rfl (fun K hK => ?_) AllReadyH.nil
  go_simp
  refine (cloneMap _ (HFn.out _ hS1)).mono ?_
  rintro e wy ⟨rfl, hm2, hb2⟩
  have hS2 : Below u.heap.size u wy := hS1.trans (hb2.mono hS1.size)
  go_wp2_with fail
  refine hK.out _ _ (hS2) (fun _ => ?_)
  clear hK K
  try simp only [Act.put, List.setIfInBounds_toArray, List.set_cons_zero, List.set_cons_succ]
  refine wpAnyH_take (i := 16) (oi := ⟨_, _, _, _, _, _⟩) (v := ?v19) rfl (by kernel_rfl) (by kernel_rfl) (by kernel_rfl) (fun _ _ _ h => h) ?y19 hS2 ?_
  case y19 => first | (refine Or.inr ⟨by rfl, ?_⟩; with_reducible rfl) | (refine Or.inl ⟨by rfl, ?_⟩; intro wS hSw; go_simp; try with_reducible rfl)
  simp only [Act.put, List.setIfInBounds_toArray, List.set_cons_zero, List.set_cons_succ]
  have hg1 := one_new wy (.cells #[.slice a1 L.length cp1, .map (some wx.heap.size)] 111 (0, 0))
  have hS3 := hS2.trans (hg1.1.mono hS2.size)
  refine wpAnyH_ready (rs := [17]) (by kernel_rfl) (by simp) ?_
  refine AllReadyH.cons (o := ⟨_, _, _, _, _, _⟩) rfl (fun K hK => ?_) AllReadyH.nil
  go_simp
  refine hK.out _ _ (hS3) (fun _ => ?_)
  clear hK K
  try simp only [Act.put, List.setIfInBounds_toArray, List.set_cons_zero, List.set_cons_succ]
  refine wpAnyH_take (i := 22) (oi := ⟨_, _, _, _, _, _⟩) (v := ?v20) rfl (by kernel_rfl) (by kernel_rfl) (by kernel_rfl) (fun _ _ _ h => h) ?y20 hS3 ?_
  case y20 => first | (refine Or.inr ⟨by rfl, ?_⟩; with_reducible rfl) | (refine Or.inl ⟨by rfl, ?_⟩; intro wS hSw; go_simp; try with_reducible rfl)
  simp only [Act.put, List.setIfInBounds_toArray, List.set_cons_zero, List.set_cons_succ]
  have hg2 := one_new (wy.alloc (.cells #[.slice a1 L.length cp1, .map (some wx.heap.size)] 111 (0, 0))) (.cells #[.pointer (some ⟨wy.heap.size, 0, none⟩), .int .i64 t] 113 (0, 0))
  have hS4 := hS3.trans (hg2.1.mono hS3.size)
  refine wpAnyH_ready (rs := [23]) (by kernel_rfl) (by simp) ?_
  refine AllReadyH.cons (o := ⟨_, _, _, _, _, _⟩) rfl (fun K hK => ?_) AllReadyH.nil
  go_simp
  refine hK.out _ _ (hS4) (fun _ => ?_)
  clear hK K
  try simp only [Act.put, List.setIfInBounds_toArray, List.set_cons_zero, List.set_cons_succ]
  refine wpAnyH_take (i := 24) (oi := ⟨_, _, _, _, _, _⟩) (v := ?v21) rfl (by kernel_rfl) (by kernel_rfl) (by kernel_rfl) (fun _ _ _ h => h) ?y21 hS4 ?_
  case y21 => first | (refine Or.inr ⟨by rfl, ?_⟩; with_reducible rfl) | (refine Or.inl ⟨by rfl, ?_⟩; intro wS hSw; go_simp; try with_reducible rfl)
  simp only [Act.put, List.setIfInBounds_toArray, List.set_cons_zero, List.set_cons_succ]
  refine wpAnyH_done (by kernel_rfl) ?_ _
  have HE := Lib.hid (HEnd.out (.slice a1 L.length cp1) wx wy hS1.size hr1 hb2 hm2 hS2 hg1.1 hg1.2 hg2.1 hg2.2 hS4)
  clear hS hS1 hS2 hS3 hS4 hg1 hg2 hr1 hb1 hm2 hb2
  go_wp2
  go_ret
  exact ⟨_, rfl, HE.out⟩
end Go.Proofs.YtpchjpmkkiopiaaGreat
