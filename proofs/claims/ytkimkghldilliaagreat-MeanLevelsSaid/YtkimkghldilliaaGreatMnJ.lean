/-
  mean: a body is asked; the store within a try.
-/
import Derived.Test.YtkimkghldilliaaGreatMnI
namespace Go.Proofs.YtkimkghldilliaaGreat
open Go.RowKit Go.Lib

theorem TrS.stored {C : Cx} {F F' : Live} {st : Ss} {w w' : World} (h : TrS C F st w) {T : List TypeId} (hT : ∀ t ∈ T, t ∈ [130, 175]) (hk : KeepT C.w0.heap.size T true w w') (hs : ∃ sv, StIs C.w0.heap.size w' C.s C.m sv F') : TrS C F' st w' ∧ KeepT C.w0.heap.size TTm true w w' := by
  have hk2 : KeepT C.w0.heap.size [130, 175] true w w' := KeepT.mono hk hT (fun h => h)
  exact ⟨⟨h.bel.trans (hk.below h.base), hk2.cells h.blk (by decide), hs, h.le⟩, KeepT.mono hk2 (by decide) (fun h => h)⟩
theorem box_one {w : World} {b : Nat} {x : Value} {t : TypeId} (h : w.heap[b]? = some (.cells #[x] t (0, 0))) : w.cell? ⟨b, 0, none⟩ = some x := by
  have := (block_cell' h 0).1
  simpa using this
/-- a rule's body. -/
theorem CxOk.rule {C : Cx} (hC : CxOk C) {ra : Option Addr} {rn rc : Nat} (hrv : C.rv = .slice ra rn rc) {k : Nat} {ru : Ru} (hk : C.R[k]? = some ru) : ∃ b off, ra = some ⟨b, off, none⟩ ∧ ru.body.toNat < C.N.length ∧ ∀ z, Below C.w0.heap.size C.w0 z → z.cell? ⟨b, off + k * 2 + 1, none⟩ = some (.int .i64 ((ru.body.toNat : Nat) : Int)) := by
  have hlt : k < C.R.length := (List.getElem?_eq_some_iff.1 hk).1
  have he : C.R[k] = ru := (List.getElem?_eq_some_iff.1 hk).2
  have hm : ru ∈ C.R := he ▸ List.getElem_mem hlt
  obtain ⟨h1, h2⟩ := hC.gv.body ru hm
  have hc : ∀ z, Below C.w0.heap.size C.w0 z → RusAt z (.slice ra rn rc) C.R := fun z hz => hrv ▸ RowsAt.later hC.gr.rules hz
  obtain ⟨b, off, e, -, -, c1⟩ := (hc C.w0 (Below.refl _ _)).cells.2.2.2 k hlt
  refine ⟨b, off, e, h2, fun z hz => ?_⟩
  rw [he] at c1
  rw [Int.toNat_of_nonneg h1]
  exact cell_later hz c1
set_option maxRecDepth 100000 in
set_option maxHeartbeats 4000000 in
theorem body_any {C : Cx} (hC : CxOk C) {f : Nat} (hM : MatchC C f) {F : Live} (hL : LiveOk C F) {rN p : Nat} {ru : Ru} (hru : C.R[rN]? = some ru) (hp : p ≤ C.W.length) {b4 b5 b7 : Nat} {st st' : Ss} {r : Fo} (w : World) (h : TrS C F st w) (hl : st.left ≤ f)
    (h4 : w.heap[b4]? = some (.cells #[.pointer (some ⟨C.tb, 0, none⟩)] 65 (0, 0))) (h5 : w.heap[b5]? = some (.cells #[.int .i64 rN] 3 (0, 0))) (h7 : w.heap[b7]? = some (.cells #[.int .i64 p] 3 (0, 0))) (he : ev false C.R C.N C.W f ru.body.toNat p (lvF F) st = some (r, st')) :
    Calls Tryz.prog 53 #[.pointer (some ⟨b4, 0, none⟩), .pointer (some ⟨b5, 0, none⟩), .pointer (some ⟨b7, 0, none⟩)] w (Post C F r st' w) := by
  have H := Lib.hid h
  obtain ⟨⟨ra, rc, hrv⟩, -, -⟩ := hC.shape
  obtain ⟨b, off, rfl, hbN, hcell⟩ := hC.rule hrv hru
  have HCell := Lib.hid hcell
  have hrN : rN < C.R.length := (List.getElem?_eq_some_iff.1 hru).1
  have HCall := Lib.hid (fun z (hz : TrS C F st z) => hM ru.body.toNat p F st r st' z hz hL hp hbN hl he)
  obtain ⟨bN, hbn⟩ : ∃ bN, bN = ru.body.toNat := ⟨_, rfl⟩
  rw [← hbn] at HCell HCall
  obtain ⟨rl, hrl⟩ : ∃ rl, rl = C.R.length := ⟨_, rfl⟩
  rw [← hrl] at hrv hrN
  have HRv := Lib.hid hrv
  have hrN2 : (rN : Int) < (rl : Int) := by omega
  obtain ⟨tb, htb⟩ : ∃ tb, tb = C.tb := ⟨_, rfl⟩
  have HTb := Lib.hid htb
  rw [← htb] at h4 HCall
  have H4 := Lib.hid h4
  have H5 := Lib.hid h5
  have H7 := Lib.hid h7
  clear h hC hM hL hru hp hl h4 h5 h7 he hcell hbN hbn hrl hrv htb
  go_enter Tryz.func53, Tryz.ntmps53
  go_upto_region 1 with (fail)
  refine gen_world (S := fun u => Below w.heap.size w u ∧ u.heap[w.heap.size]? = some (.cells #[.bool false, .int .i64 0, .int .i64 0, .int .i64 0, .slice none 0 0] 73 (0, 0))) (one_new w _) (fun u hu => ?_)
  obtain ⟨hb, h2⟩ := hu
  obtain ⟨X, hX⟩ : ∃ X, X = w.heap.size := ⟨_, rfl⟩
  rw [← hX] at h2 ⊢
  have HX := Lib.hid hX
  have HT := Lib.hid (H.out.later hb)
  have HK := Lib.hid (KeepT.ofBelow hb : KeepT C.w0.heap.size TTm true w u)
  have H4u := Lib.hid ((hb.block _ (lt_of_block H4.out)).trans H4.out)
  have H5u := Lib.hid ((hb.block _ (lt_of_block H5.out)).trans H5.out)
  have H7u := Lib.hid ((hb.block _ (lt_of_block H7.out)).trans H7.out)
  have H2 := Lib.hid h2
  clear hb h2 hX
  refine wp_region_held_drew (S := fun z => Below C.w0.heap.size C.w0 z ∧ (z.cell? ⟨tb, 3, none⟩ = some (.slice (some ⟨b, off, none⟩) rl rc)) ∧ z.heap[b4]? = some (.cells #[.pointer (some ⟨tb, 0, none⟩)] 65 (0, 0)) ∧ z.heap[b5]? = some (.cells #[.int .i64 rN] 3 (0, 0)) ∧ z.heap[b7]? = some (.cells #[.int .i64 p] 3 (0, 0))) (by kernel_rfl) ⟨HT.out.bel.drew, by have := HT.out.cells.2.2.2.1; rw [HRv.out, ← HTb.out] at this; exact this, H4u.out, H5u.out, H7u.out⟩ (fun hS => ?_)
  refine wpAnyH_take (i := 0) (oi := ⟨_, _, _, _, _, _⟩) (v := ?v1) rfl (by kernel_rfl) (by kernel_rfl) (by kernel_rfl) (fun _ _ _ h => h) ?y1 hS ?_
  case y1 => first | (refine Or.inr ⟨by rfl, ?_⟩; with_reducible rfl) | (refine Or.inl ⟨by rfl, ?_⟩; intro wS hSw; obtain ⟨hSa, t3, hSb, hSc, hSd⟩ := hSw; have w9 := HCell.out wS hSa; have q4 := box_one hSb; have q5 := box_one hSc; have q7 := box_one hSd; go_simp; try with_reducible rfl)
  simp only [Act.put, List.setIfInBounds_toArray, List.set_cons_zero, List.set_cons_succ]
  refine wpAnyH_take (i := 1) (oi := ⟨_, _, _, _, _, _⟩) (v := ?v2) rfl (by kernel_rfl) (by kernel_rfl) (by kernel_rfl) (fun _ _ _ h => h) ?y2 hS ?_
  case y2 => first | (refine Or.inr ⟨by rfl, ?_⟩; with_reducible rfl) | (refine Or.inl ⟨by rfl, ?_⟩; intro wS hSw; obtain ⟨hSa, t3, hSb, hSc, hSd⟩ := hSw; have w9 := HCell.out wS hSa; have q4 := box_one hSb; have q5 := box_one hSc; have q7 := box_one hSd; go_simp; try with_reducible rfl)
  simp only [Act.put, List.setIfInBounds_toArray, List.set_cons_zero, List.set_cons_succ]
  refine wpAnyH_take (i := 2) (oi := ⟨_, _, _, _, _, _⟩) (v := ?v3) rfl (by kernel_rfl) (by kernel_rfl) (by kernel_rfl) (fun _ _ _ h => h) ?y3 hS ?_
  case y3 => first | (refine Or.inr ⟨by rfl, ?_⟩; with_reducible rfl) | (refine Or.inl ⟨by rfl, ?_⟩; intro wS hSw; obtain ⟨hSa, t3, hSb, hSc, hSd⟩ := hSw; have w9 := HCell.out wS hSa; have q4 := box_one hSb; have q5 := box_one hSc; have q7 := box_one hSd; go_simp; try with_reducible rfl)
  simp only [Act.put, List.setIfInBounds_toArray, List.set_cons_zero, List.set_cons_succ]
  refine wpAnyH_take (i := 3) (oi := ⟨_, _, _, _, _, _⟩) (v := ?v4) rfl (by kernel_rfl) (by kernel_rfl) (by kernel_rfl) (fun _ _ _ h => h) ?y4 hS ?_
  case y4 => first | (refine Or.inr ⟨by rfl, ?_⟩; with_reducible rfl) | (refine Or.inl ⟨by rfl, ?_⟩; intro wS hSw; obtain ⟨hSa, t3, hSb, hSc, hSd⟩ := hSw; have w9 := HCell.out wS hSa; have q4 := box_one hSb; have q5 := box_one hSc; have q7 := box_one hSd; go_simp; try with_reducible rfl)
  simp only [Act.put, List.setIfInBounds_toArray, List.set_cons_zero, List.set_cons_succ]
  refine wpAnyH_take (i := 4) (oi := ⟨_, _, _, _, _, _⟩) (v := ?v5) rfl (by kernel_rfl) (by kernel_rfl) (by kernel_rfl) (fun _ _ _ h => h) ?y5 hS ?_
  case y5 => first | (refine Or.inr ⟨by rfl, ?_⟩; with_reducible rfl) | (refine Or.inl ⟨by rfl, ?_⟩; intro wS hSw; obtain ⟨hSa, t3, hSb, hSc, hSd⟩ := hSw; have w9 := HCell.out wS hSa; have q4 := box_one hSb; have q5 := box_one hSc; have q7 := box_one hSd; go_simp; try with_reducible rfl)
  simp only [Act.put, List.setIfInBounds_toArray, List.set_cons_zero, List.set_cons_succ]
  refine wpAnyH_take (i := 5) (oi := ⟨_, _, _, _, _, _⟩) (v := ?v6) rfl (by kernel_rfl) (by kernel_rfl) (by kernel_rfl) (fun _ _ _ h => h) ?y6 hS ?_
  case y6 => first | (refine Or.inr ⟨by rfl, ?_⟩; with_reducible rfl) | (refine Or.inl ⟨by rfl, ?_⟩; intro wS hSw; obtain ⟨hSa, t3, hSb, hSc, hSd⟩ := hSw; have w9 := HCell.out wS hSa; have q4 := box_one hSb; have q5 := box_one hSc; have q7 := box_one hSd; go_simp; try with_reducible rfl)
  simp only [Act.put, List.setIfInBounds_toArray, List.set_cons_zero, List.set_cons_succ]
  refine wpAnyH_take (i := 6) (oi := ⟨_, _, _, _, _, _⟩) (v := ?v7) rfl (by kernel_rfl) (by kernel_rfl) (by kernel_rfl) (fun _ _ _ h => h) ?y7 hS ?_
  case y7 => first | (refine Or.inr ⟨by rfl, ?_⟩; with_reducible rfl) | (refine Or.inl ⟨by rfl, ?_⟩; intro wS hSw; obtain ⟨hSa, t3, hSb, hSc, hSd⟩ := hSw; have w9 := HCell.out wS hSa; have q4 := box_one hSb; have q5 := box_one hSc; have q7 := box_one hSd; go_simp; try with_reducible rfl)
  simp only [Act.put, List.setIfInBounds_toArray, List.set_cons_zero, List.set_cons_succ]
  refine wpAnyH_take (i := 7) (oi := ⟨_, _, _, _, _, _⟩) (v := ?v8) rfl (by kernel_rfl) (by kernel_rfl) (by kernel_rfl) (fun _ _ _ h => h) ?y8 hS ?_
  case y8 => first | (refine Or.inr ⟨by rfl, ?_⟩; with_reducible rfl) | (refine Or.inl ⟨by rfl, ?_⟩; intro wS hSw; obtain ⟨hSa, t3, hSb, hSc, hSd⟩ := hSw; have w9 := HCell.out wS hSa; have q4 := box_one hSb; have q5 := box_one hSc; have q7 := box_one hSd; go_simp; try with_reducible rfl)
  simp only [Act.put, List.setIfInBounds_toArray, List.set_cons_zero, List.set_cons_succ]
  refine wpAnyH_take (i := 8) (oi := ⟨_, _, _, _, _, _⟩) (v := ?v9) rfl (by kernel_rfl) (by kernel_rfl) (by kernel_rfl) (fun _ _ _ h => h) ?y9 hS ?_
  case y9 => first | (refine Or.inr ⟨by rfl, ?_⟩; with_reducible rfl) | (refine Or.inl ⟨by rfl, ?_⟩; intro wS hSw; obtain ⟨hSa, t3, hSb, hSc, hSd⟩ := hSw; have w9 := HCell.out wS hSa; have q4 := box_one hSb; have q5 := box_one hSc; have q7 := box_one hSd; go_simp; try with_reducible rfl)
  simp only [Act.put, List.setIfInBounds_toArray, List.set_cons_zero, List.set_cons_succ]
  refine wpAnyH_take (i := 9) (oi := ⟨_, _, _, _, _, _⟩) (v := ?v10) rfl (by kernel_rfl) (by kernel_rfl) (by kernel_rfl) (fun _ _ _ h => h) ?y10 hS ?_
  case y10 => first | (refine Or.inr ⟨by rfl, ?_⟩; with_reducible rfl) | (refine Or.inl ⟨by rfl, ?_⟩; intro wS hSw; obtain ⟨hSa, t3, hSb, hSc, hSd⟩ := hSw; have w9 := HCell.out wS hSa; have q4 := box_one hSb; have q5 := box_one hSc; have q7 := box_one hSd; go_simp; try with_reducible rfl)
  simp only [Act.put, List.setIfInBounds_toArray, List.set_cons_zero, List.set_cons_succ]
  refine wpAnyH_take (i := 10) (oi := ⟨_, _, _, _, _, _⟩) (v := ?v11) rfl (by kernel_rfl) (by kernel_rfl) (by kernel_rfl) (fun _ _ _ h => h) ?y11 hS ?_
  case y11 => first | (refine Or.inr ⟨by rfl, ?_⟩; with_reducible rfl) | (refine Or.inl ⟨by rfl, ?_⟩; intro wS hSw; obtain ⟨hSa, t3, hSb, hSc, hSd⟩ := hSw; have w9 := HCell.out wS hSa; have q4 := box_one hSb; have q5 := box_one hSc; have q7 := box_one hSd; go_simp; try with_reducible rfl)
  simp only [Act.put, List.setIfInBounds_toArray, List.set_cons_zero, List.set_cons_succ]
  refine wpAnyH_ready (rs := [11]) (by kernel_rfl) (by simp) ?_
  refine AllReadyH.cons (o := ⟨_, _, _, _, _, _⟩) rfl (fun K hK => ?_) AllReadyH.nil
  go_simp
  refine (HCall.out _ (HT.out.later ((Below.refl _ _).drew))).mono ?_
  rintro e z ⟨⟨v, rfl, fv, rfl, hfv⟩, htz, hkz⟩
  obtain ⟨fa, fc, rfl⟩ := hfv.1.val
  have HFv := Lib.hid hfv
  have HTz := Lib.hid htz
  have HKz := Lib.hid (KeepT.tra (KeepT.tra HK.out (KeepT.ofBelow ((Below.refl _ _).drew))) hkz : KeepT C.w0.heap.size TTm true w z)
  have hSz : Below C.w0.heap.size C.w0 z ∧ (z.cell? ⟨tb, 3, none⟩ = some (.slice (some ⟨b, off, none⟩) rl rc)) ∧ z.heap[b4]? = some (.cells #[.pointer (some ⟨tb, 0, none⟩)] 65 (0, 0)) ∧ z.heap[b5]? = some (.cells #[.int .i64 rN] 3 (0, 0)) ∧ z.heap[b7]? = some (.cells #[.int .i64 p] 3 (0, 0)) := ⟨htz.bel, by have := htz.cells.2.2.2.1; rw [HRv.out, ← HTb.out] at this; exact this, hkz.cells hS.2.2.1 (by decide), hkz.cells hS.2.2.2.1 (by decide), hkz.cells hS.2.2.2.2 (by decide)⟩
  have H2z := Lib.hid (hkz.cells (((Below.refl u.heap.size u).drew.block _ (lt_of_block H2.out)).trans H2.out) (by decide))
  unfold foV foC
  obtain ⟨fn, hfn⟩ : ∃ fn, fn = (foF r).length := ⟨_, rfl⟩
  rw [← hfn] at HFv ⊢
  clear hfv htz hkz hfn hS
  go_wp2_with fail
  refine hK.out _ _ hSz (fun hS2 => ?_)
  clear hK K hS2
  try simp only [Act.put, List.setIfInBounds_toArray, List.set_cons_zero, List.set_cons_succ]
  refine wpAnyH_ready (rs := [12]) (by kernel_rfl) (by simp) ?_
  refine AllReadyH.cons (o := ⟨_, _, _, _, _, _⟩) rfl (fun K hK => ?_) AllReadyH.nil
  obtain ⟨d0, d1, d2, d3, d4⟩ := five_box H2z.out
  obtain ⟨g0, g1, g2, g3, g4⟩ := five_frz H2z.out
  go_simp
  obtain ⟨k5, hk5⟩ := set5 H2z.out (.bool (foIs r)) (.int .i64 (foEn r)) (.int .i64 (foFar r)) (.int .i64 (foRt r)) (.slice fa fn fc)
  have hxw : w.heap.size ≤ X := Nat.le_of_eq HX.out.symm
  have hT4 := HTz.out.res H2z.out (Nat.le_trans H.out.base hxw) hk5
  have hne : ∀ c cs t, z.heap[c]? = some (.cells cs t (0, 0)) → t ≠ 73 → c ≠ X := fun c cs t hc ht e => by subst e; rw [H2z.out] at hc; simp only [Option.some.injEq, Obj.cells.injEq] at hc; exact ht hc.2.1.symm
  refine hK.out _ _ ⟨hT4.bel, by have := hT4.cells.2.2.2.1; rw [HRv.out, ← HTb.out] at this; exact this, hk5.obj hSz.2.2.1 (hne _ _ _ hSz.2.2.1 (by decide)), hk5.obj hSz.2.2.2.1 (hne _ _ _ hSz.2.2.2.1 (by decide)), hk5.obj hSz.2.2.2.2 (hne _ _ _ hSz.2.2.2.2 (by decide))⟩ (fun hS3 => ?_)
  clear hK K hS3 hSz hne
  try simp only [Act.put, List.setIfInBounds_toArray, List.set_cons_zero, List.set_cons_succ]
  refine wpAnyH_done (by kernel_rfl) ?_ _
  go_wp2
  obtain ⟨q0, q1, q2, q3, q4⟩ := five_box k5
  exact bodyPost_ret (v := .agg #[.bool (foIs r), .int .i64 (foEn r), .int .i64 (foFar r), .int .i64 (foRt r), .slice fa fn fc]) (by simp [results, Tryz.f53, go_sem, q0, q1, q2, q3, q4]) rfl ⟨⟨_, rfl, _, rfl, HFv.out.res H2z.out hk5⟩, hT4, HKz.out.endAt hxw hk5⟩
end Go.Proofs.YtkimkghldilliaaGreat
