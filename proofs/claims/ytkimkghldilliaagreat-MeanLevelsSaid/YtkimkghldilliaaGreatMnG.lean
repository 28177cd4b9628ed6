/-
  mean: a kid that is repeated, that may be, that is looked at.
-/
import Derived.Test.YtkimkghldilliaaGreatMnF
namespace Go.Proofs.YtkimkghldilliaaGreat
open Go.RowKit Go.Lib

set_option maxRecDepth 100000 in
set_option maxHeartbeats 8000000 in
theorem more_any {C : Cx} (hC : CxOk C) {f : Nat} (hM : MatchC C f) {F : Live} (hL : LiveOk C F) {p : Nat} {g : Ht} (hg : HtOk C.W p g) {fv : Value} {kN n : Nat} (hk : kN < C.N.length) {st st' : Ss} {r : Fo} (w : World) (hfv : TwIn w fv g.forest) (h : TrS C F st w) (hl : st.left ≤ f) (he : moreE (ev false C.R C.N C.W f) (lvF F) kN n g st = some (r, st')) :
    Calls Tryz.prog 161 #[.pointer (some ⟨C.tb, 0, none⟩), .agg #[.bool true, .int .i64 g.en, .int .i64 g.far, .int .i64 g.roots, fv], .int .i64 kN] w (Post C F r st' w) := by
  have H := Lib.hid h
  have HM := Lib.hid hM
  have HL := Lib.hid hL
  have HE := Lib.hid he
  have HG0 := Lib.hid hg
  have HkN := Lib.hid hk
  have HFv := Lib.hid hfv
  have HEv := Lib.hid (ev_ok (doc := false) hC.gv hC.hW f)
  obtain ⟨ga, gc, rfl⟩ := hfv.1.val
  obtain ⟨tb, htb⟩ : ∃ tb, tb = C.tb := ⟨_, rfl⟩
  have HTb := Lib.hid htb
  rw [← htb]
  obtain ⟨m, hm⟩ : ∃ m, m = g.forest.length := ⟨_, rfl⟩
  rw [← hm] at HFv ⊢
  clear h hC hM hL hg hk hfv he htb hm
  go_enter Tryz.func161, Tryz.ntmps161
  go_upto_region 1 with (fail)
  refine gen_world (S := fun u => Below w.heap.size w u ∧ u.heap[w.heap.size]? = some (.cells #[.bool true, .int .i64 g.en, .int .i64 g.far, .int .i64 g.roots, .slice ga m gc] 73 (0, 0)) ∧ u.heap[w.heap.size + 1]? = some (.cells #[.bool false, .int .i64 0, .int .i64 0, .int .i64 0, .slice none 0 0] 73 (0, 0))) (two_new w _ _) (fun u hu => ?_)
  obtain ⟨hb, h1, h2⟩ := hu
  obtain ⟨X, hX⟩ : ∃ X, X = w.heap.size := ⟨_, rfl⟩
  rw [← hX] at h1 h2 ⊢
  have HX := Lib.hid hX
  have HT := Lib.hid (H.out.later hb)
  have HK := Lib.hid (KeepT.ofBelow hb : KeepT C.w0.heap.size TTm true w u)
  have H2 := Lib.hid h2
  have HF := Lib.hid (show FoBox u X (.hit g) (.slice ga m gc) from ⟨h1, HFv.out.later hb⟩)
  clear hb h1 h2 hX
  go_upto_region 2 with (fail)
  go_loopg [] n (fun gn wr => ∃ (g : Ht) (fv : Value) (s : Ss), Hid (HtOk C.W p g) ∧ Hid (s.left ≤ f ∧ moreE (ev false C.R C.N C.W f) (lvF F) kN gn g s = some (r, st')) ∧ Hid (FoBox wr X (.hit g) fv) ∧ Hid (TrS C F s wr) ∧ Hid (KeepT C.w0.heap.size TTm true w wr) ∧ Hid (wr.heap[X + 1]? = some (.cells #[.bool false, .int .i64 0, .int .i64 0, .int .i64 0, .slice none 0 0] 73 (0, 0))))
  case atStart => exact ⟨g, _, st, HG0, Lib.hid ⟨hl, HE.out⟩, HF, HT, HK, H2⟩
  case round =>
    clear HF HG0 HFv HT HK H2 HE
    obtain ⟨g, fv, s, HG, HS, HF, HTr, HKr, H2r⟩ := hrel
    obtain ⟨ga, gc, hgv⟩ := HF.out.2.1.val
    subst hgv
    obtain ⟨m, hm⟩ : ∃ m, m = (foF (.hit g)).length := ⟨_, rfl⟩
    rw [← hm] at HF
    clear hm
    have hs := HS.out.2
    cases gk with
    | zero => rw [moreE] at hs; cases hs
    | succ gn =>
    rw [moreE] at hs
    cases hE : ev false C.R C.N C.W f kN g.en (lvF F) s with
    | none => rw [hE] at hs; cases hs
    | some q1 =>
    obtain ⟨q, s1⟩ := q1
    rw [hE] at hs
    have HQ := Lib.hid (HEv.out kN g.en (lvF F) s q s1 HG.out.2.1 HL.out.ok hE)
    have HSl := Lib.hid (ev_left f kN g.en (lvF F) s q s1 hE)
    have HCall := Lib.hid (HM.out kN g.en F s q s1 wr HTr.out HL.out HG.out.2.1 HkN.out HS.out.1 hE)
    rw [← HTb.out] at HCall
    have HSt := Lib.hid hs
    have hcn := HF.out.cells
    simp only [foIs, foEn, foFar, foRt] at hcn
    obtain ⟨c0, c1, c2, c3, c4⟩ := hcn
    clear hs hE
    go_wp2_with fail
    refine HCall.out.mono ?_
    rintro e z ⟨⟨v, rfl, fv2, rfl, hfv2⟩, htz, hkz⟩
    obtain ⟨fa2, fc2, rfl⟩ := hfv2.1.val
    have HFv2 := Lib.hid hfv2
    have HTz := Lib.hid htz
    have HKz := Lib.hid (KeepT.tra HKr.out hkz)
    have HFz := Lib.hid (HF.out.keepT hkz)
    have H2z := Lib.hid (hkz.cells H2r.out (by decide))
    unfold foV foC
    obtain ⟨m2, hm2⟩ : ∃ m2, m2 = (foF q).length := ⟨_, rfl⟩
    rw [← hm2] at HFv2 ⊢
    clear hfv2 htz hkz c0 c1 c2 c3 c4 hm2 HCall
    go_upto_region 3 with (fail)
    have hn2 := one_new z (.cells #[.bool (foIs q), .int .i64 (foEn q), .int .i64 (foFar q), .int .i64 (foRt q), .slice fa2 m2 fc2] 73 (0, 0))
    refine gen_world (S := fun y => Below z.heap.size z y ∧ y.heap[z.heap.size]? = some (.cells #[.bool (foIs q), .int .i64 (foEn q), .int .i64 (foFar q), .int .i64 (foRt q), .slice fa2 m2 fc2] 73 (0, 0))) hn2 (fun y2 hy2 => ?_)
    obtain ⟨hb2, hf2⟩ := hy2
    obtain ⟨V, hV⟩ : ∃ V, V = z.heap.size := ⟨_, rfl⟩
    rw [← hV] at hf2 ⊢
    have HT2 := Lib.hid (HTz.out.later hb2)
    have HK2 := Lib.hid (KeepT.tra HKz.out (KeepT.ofBelow hb2))
    have HF2 := Lib.hid (HFz.out.later hb2)
    have H22 := Lib.hid ((hb2.block _ (lt_of_block H2z.out)).trans H2z.out)
    have HQ2 := Lib.hid (show FoBox y2 V q (.slice fa2 m2 fc2) from ⟨hf2, HFv2.out.later hb2⟩)
    clear hn2 hb2 hf2 hV HTz HKz HFz H2z HFv2 HF HTr HKr H2r
    have hcn := HF2.out.cells
    have hcq := HQ2.out.cells
    cases q with
    | miss fr =>
      simp only [foIs, foEn, foFar, foRt] at hcn hcq ⊢
      obtain ⟨c0, c1, c2, c3, c4⟩ := hcn
      obtain ⟨e0, e1, e2, e3, e4⟩ := hcq
      have hst := HSt.out
      skip
      simp only [Option.some.injEq, Prod.mk.injEq] at hst
      obtain ⟨hr1, hs1⟩ := hst
      have HR1 := Lib.hid hr1
      have HS1 := Lib.hid hs1
      clear hr1 hs1
      go_wp2_with fail
      refine (tried_any true g.en g.far g.roots (fr) ga m gc y2).mono ?_
      rintro e w3 ⟨rfl, hb3⟩
      have HT3 := Lib.hid (HT2.out.later hb3)
      have HK3 := Lib.hid (KeepT.tra HK2.out (KeepT.ofBelow hb3))
      have H23 := Lib.hid ((hb3.block _ (lt_of_block H22.out)).trans H22.out)
      have HW3 := Lib.hid (HF2.out.2.later hb3)
      clear hb3 c0 c1 c2 c3 c4 e0 e1 e2 e3 e4
      obtain ⟨d0, d1, d2, d3, d4⟩ := five_box H23.out
      obtain ⟨g0, g1, g2, g3, g4⟩ := five_frz H23.out
      go_wp2
      rw [← HS1.out, ← HR1.out]
      obtain ⟨k5, hk5⟩ := set5 H23.out (.bool true) (.int .i64 g.en) (.int .i64 (max g.far (fr))) (.int .i64 g.roots) (.slice ga m gc)
      obtain ⟨q0, q1, q2, q3, q4⟩ := five_box k5
      have hxw : w.heap.size ≤ X + 1 := by have := HX.out; omega
      exact bodyPost_ret (v := .agg #[.bool true, .int .i64 g.en, .int .i64 (max g.far (fr)), .int .i64 g.roots, .slice ga m gc]) (by simp [results, Tryz.f161, go_sem, q0, q1, q2, q3, q4]) rfl ⟨⟨_, rfl, _, rfl, HW3.out.res H23.out hk5⟩, HT3.out.res H23.out (Nat.le_trans H.out.base hxw) hk5, HK3.out.endAt hxw hk5⟩
    | hit h2 =>
      by_cases heq : h2.en = g.en
      case pos =>
        have d0 : ((h2.en : Int) == (g.en : Int)) = true := by simp; omega
        simp only [foIs, foEn, foFar, foRt] at hcn hcq ⊢
        obtain ⟨c0, c1, c2, c3, c4⟩ := hcn
        obtain ⟨e0, e1, e2, e3, e4⟩ := hcq
        have hst := HSt.out
        simp only at hst
        rw [if_pos heq] at hst
        clear heq
        simp only [Option.some.injEq, Prod.mk.injEq] at hst
        obtain ⟨hr1, hs1⟩ := hst
        have HR1 := Lib.hid hr1
        have HS1 := Lib.hid hs1
        clear hr1 hs1
        go_wp2_with fail
        refine (tried_any true g.en g.far g.roots (h2.far) ga m gc y2).mono ?_
        rintro e w3 ⟨rfl, hb3⟩
        have HT3 := Lib.hid (HT2.out.later hb3)
        have HK3 := Lib.hid (KeepT.tra HK2.out (KeepT.ofBelow hb3))
        have H23 := Lib.hid ((hb3.block _ (lt_of_block H22.out)).trans H22.out)
        have HW3 := Lib.hid (HF2.out.2.later hb3)
        clear hb3 c0 c1 c2 c3 c4 e0 e1 e2 e3 e4
        obtain ⟨d0, d1, d2, d3, d4⟩ := five_box H23.out
        obtain ⟨g0, g1, g2, g3, g4⟩ := five_frz H23.out
        go_wp2
        rw [← HS1.out, ← HR1.out]
        obtain ⟨k5, hk5⟩ := set5 H23.out (.bool true) (.int .i64 g.en) (.int .i64 (max g.far (h2.far))) (.int .i64 g.roots) (.slice ga m gc)
        obtain ⟨q0, q1, q2, q3, q4⟩ := five_box k5
        have hxw : w.heap.size ≤ X + 1 := by have := HX.out; omega
        exact bodyPost_ret (v := .agg #[.bool true, .int .i64 g.en, .int .i64 (max g.far (h2.far)), .int .i64 g.roots, .slice ga m gc]) (by simp [results, Tryz.f161, go_sem, q0, q1, q2, q3, q4]) rfl ⟨⟨_, rfl, _, rfl, HW3.out.res H23.out hk5⟩, HT3.out.res H23.out (Nat.le_trans H.out.base hxw) hk5, HK3.out.endAt hxw hk5⟩
      case neg =>
        have d0 : ((h2.en : Int) == (g.en : Int)) = false := by simp; omega
        simp only [foIs, foEn, foFar, foRt] at hcn hcq ⊢
        obtain ⟨c0, c1, c2, c3, c4⟩ := hcn
        obtain ⟨e0, e1, e2, e3, e4⟩ := hcq
        have hst := HSt.out
        simp only at hst
        rw [if_neg heq] at hst
        cases hth : g.then h2 with
        | none => rw [hth] at hst; cases hst
        | some g' =>
        rw [hth] at hst
        have HSt2 := Lib.hid hst
        have HG2 := Lib.hid (then_ok HG.out HQ.out hth)
        have HTh := Lib.hid hth
        have hq1 := HG.out.2.2.2.2
        have hq2 := HQ.out.2.2.2.2
        unfold lim at hq1 hq2
        have HThen := Lib.hid (then_any true g.en g.far g.roots h2.en h2.far h2.roots _ _ g.forest h2.forest y2 HF2.out.2 HQ2.out.2 (by have := hth; unfold Ht.then at this; split at this; assumption; cases this) ⟨by omega, by omega, by omega, by omega⟩)
        clear hst hth hq1 hq2
        go_wp2_with fail
        refine HThen.out.mono ?_
        rintro e w3 ⟨⟨fv3, rfl, hfv3⟩, hb3⟩
        obtain ⟨fa3, fc3, rfl⟩ := hfv3.1.val
        have HT3 := Lib.hid (HT2.out.later hb3)
        have HK3 := Lib.hid (KeepT.tra HK2.out (KeepT.ofBelow hb3))
        have H23 := Lib.hid ((hb3.block _ (lt_of_block H22.out)).trans H22.out)
        have HF3 := Lib.hid (HF2.out.later hb3)
        have HW3 := Lib.hid hfv3
        obtain ⟨m3, hm3⟩ : ∃ m3, m3 = (g.forest ++ h2.forest).length := ⟨_, rfl⟩
        rw [← hm3] at HW3 ⊢
        clear hb3 c0 c1 c2 c3 c4 e0 e1 e2 e3 e4 hfv3 hm3 HThen
        have hcn := HF3.out.cells
        simp only [foIs, foEn, foFar, foRt] at hcn
        obtain ⟨c0, c1, c2, c3, c4⟩ := hcn
        obtain ⟨g0, g1, g2, g3, g4⟩ := five_frz HF3.out.1
        go_wp2
        have hbox := HF3.out.1
        unfold foC at hbox
        obtain ⟨k5, hk5⟩ := set5 hbox (.bool true) (.int .i64 h2.en) (.int .i64 (max g.far h2.far)) (.int .i64 ((g.roots : Int) + (h2.roots : Int))) (.slice fa3 m3 fc3)
        have hg' : g' = ⟨h2.en, max g.far h2.far, g.roots + h2.roots, g.forest ++ h2.forest⟩ := by
          have := HTh.out
          unfold Ht.then at this
          split at this
          · exact (Option.some.inj this).symm
          · cases this
        have hzw : w.heap.size ≤ X := Nat.le_of_eq HX.out.symm
        have hzB : C.w0.heap.size ≤ X := Nat.le_trans H.out.base hzw
        have HR := Lib.hid (show FoBox _ X (.hit g') (.slice fa3 m3 fc3) from ⟨by rw [hg']; exact k5, by rw [hg']; exact HW3.out.res hbox hk5⟩)
        have HT4 := Lib.hid (HT3.out.res hbox hzB hk5)
        have HK4 := Lib.hid (HK3.out.endAt hzw hk5)
        have H24 := Lib.hid (hk5.obj H23.out (by omega))
        clear hbox k5 hk5 hg' hzB hzw g0 g1 g2 g3 g4 c0 c1 c2 c3 c4
        go_roundg gn
        case measure => omega
        case rel => exact ⟨g', _, s1, HG2, Lib.hid ⟨Nat.le_trans HSl.out.1 HS.out.1, HSt2.out⟩, HR, HT4, HK4, H24⟩
set_option maxRecDepth 100000 in
set_option maxHeartbeats 8000000 in
theorem way_star {C : Cx} (hC : CxOk C) {f : Nat} {x : Nd} (hx : x ∈ C.N) (hkd : x.kind = 8) (hM : MatchC C f) : WayC C f x := by
  intro p F st r st' w h hL hp hl he
  unfold nodeE at he
  rw [if_neg (by rw [hkd]; decide), if_neg (by rw [hkd]; decide), if_neg (by rw [hkd]; decide), if_neg (by rw [hkd]; decide), if_neg (by rw [hkd]; decide), if_neg (by rw [hkd]; decide)] at he
  rw [show wayF x.kind = 132 from by unfold wayF; rw [hkd]; rfl]
  have H := Lib.hid h
  have HC := Lib.hid hC
  have HL := Lib.hid hL
  have HM := Lib.hid hM
  have HE := Lib.hid he
  have hxw := hC.gr.wf x hx
  have hW := hC.hW
  have hEv := ev_ok (doc := false) hC.gv hW f
  obtain ⟨⟨ra, rc, hrv⟩, ⟨na, nc, hnv⟩, ⟨wa, wc, hwv⟩⟩ := hC.shape
  obtain ⟨ka, kc, hkv⟩ := hxw.kv
  obtain ⟨tb, htb⟩ : ∃ tb, tb = C.tb := ⟨_, rfl⟩
  have HTb := Lib.hid htb
  rw [← htb]
  obtain ⟨wl, hwl⟩ : ∃ wl, wl = C.W.length := ⟨_, rfl⟩
  have HWl := Lib.hid hwl
  rw [← hwl] at hwv hp hW
  have HWv := Lib.hid hwv
  have hne := hC.gv.one x hx (by omega)
  obtain ⟨k0, ks, hks⟩ : ∃ k0 ks, x.kids = k0 :: ks := by
    cases hq : x.kids with
    | nil => exact absurd hq hne
    | cons a b => exact ⟨a, b, rfl⟩
  obtain ⟨b, off, kN, rfl, hkk, hkN, hcell⟩ := hC.kid hx hkv 0 (by rw [hks]; simp)
  have hk0 : k0 = (kN : Int) := by rw [← hkk]; simp [hks]
  subst hk0
  rw [hks] at he
  simp only [Int.toNat_natCast] at he
  have hfew : 0 < x.kids.length := by rw [hks]; simp
  rw [Nat.add_zero] at hcell
  have HCell := Lib.hid hcell
  have HkN := Lib.hid hkN
  obtain ⟨kind, c0, c1, c2, c3, text, rule, level, kids, kv⟩ := x
  simp only at hkv hfew hkd he
  subst hkv
  unfold ndv
  simp only
  obtain ⟨kn, hkn⟩ : ∃ kn, kn = kids.length := ⟨_, rfl⟩
  have HKn := Lib.hid hkn
  rw [← hkn]
  clear hkn
  have hk0 : (0 : Int) < (kn : Int) := by rw [HKn.out]; omega
  have hk1 : 0 < kn := by omega
  have hpw : p ≤ C.W.length := by rw [← HWl.out]; exact hp
  have HPw := Lib.hid hpw
  have HEv := Lib.hid hEv
  have HE2 := Lib.hid he
  have HHC := Lib.hid hC
  clear h hL hM he hx hxw hrv hnv hwv htb hwl hEv hne hks hkk hkN hcell hfew hpw HE
  rw [if_pos hkd] at HE2
  clear hkd
  go_enter Tryz.func132, Tryz.ntmps132
  go_upto_region 1 with (fail)
  refine gen_world (S := fun u => Below w.heap.size w u ∧ u.heap[w.heap.size]? = some (.cells #[.int .i64 kind, .int .u64 c0, .int .u64 c1, .int .u64 c2, .int .u64 c3, .string text, .int .i64 rule, .int .i64 level, .slice (some ⟨b, off, none⟩) kn kc] 60 (0, 0)) ∧ u.heap[w.heap.size + 1]? = some (.cells #[.bool false, .int .i64 0, .int .i64 0, .int .i64 0, .slice none 0 0] 73 (0, 0))) (two_new w _ _) (fun u hu => ?_)
  obtain ⟨hb, h1, h2⟩ := hu
  have HB := Lib.hid hb
  have H1 := Lib.hid h1
  have H2 := Lib.hid h2
  obtain ⟨X, hX⟩ : ∃ X, X = w.heap.size := ⟨_, rfl⟩
  rw [← hX] at H1 H2 ⊢
  have HX := Lib.hid hX
  have HT := Lib.hid (H.out.later hb)
  have HK := Lib.hid (KeepT.ofBelow hb : KeepT C.w0.heap.size TTm true w u)
  clear hb h1 h2 hX
  refine wp_region_held_drew (S := fun z => Below C.w0.heap.size C.w0 z ∧ z.heap[X]? = some (.cells #[.int .i64 kind, .int .u64 c0, .int .u64 c1, .int .u64 c2, .int .u64 c3, .string text, .int .i64 rule, .int .i64 level, .slice (some ⟨b, off, none⟩) kn kc] 60 (0, 0))) (by kernel_rfl) ⟨HT.out.bel.drew, H1.out⟩ (fun hS => ?_)
  refine wpAnyH_take (i := 0) (oi := ⟨_, _, _, _, _, _⟩) (v := ?v1) rfl (by kernel_rfl) (by kernel_rfl) (by kernel_rfl) (fun _ _ _ h => h) ?y1 hS ?_
  case y1 => first | (refine Or.inr ⟨by rfl, ?_⟩; with_reducible rfl) | (refine Or.inl ⟨by rfl, ?_⟩; intro wS hSw; obtain ⟨v0, v1, v2, v3, v4, v5, v6, v7, v8⟩ := nine_box hSw.2; have w9 := HCell.out wS hSw.1; go_simp; try with_reducible rfl)
  simp only [Act.put, List.setIfInBounds_toArray, List.set_cons_zero, List.set_cons_succ]
  refine wpAnyH_take (i := 1) (oi := ⟨_, _, _, _, _, _⟩) (v := ?v2) rfl (by kernel_rfl) (by kernel_rfl) (by kernel_rfl) (fun _ _ _ h => h) ?y2 hS ?_
  case y2 => first | (refine Or.inr ⟨by rfl, ?_⟩; with_reducible rfl) | (refine Or.inl ⟨by rfl, ?_⟩; intro wS hSw; obtain ⟨v0, v1, v2, v3, v4, v5, v6, v7, v8⟩ := nine_box hSw.2; have w9 := HCell.out wS hSw.1; go_simp; try with_reducible rfl)
  simp only [Act.put, List.setIfInBounds_toArray, List.set_cons_zero, List.set_cons_succ]
  refine wpAnyH_take (i := 3) (oi := ⟨_, _, _, _, _, _⟩) (v := ?v3) rfl (by kernel_rfl) (by kernel_rfl) (by kernel_rfl) (fun _ _ _ h => h) ?y3 hS ?_
  case y3 => first | (refine Or.inr ⟨by rfl, ?_⟩; with_reducible rfl) | (refine Or.inl ⟨by rfl, ?_⟩; intro wS hSw; obtain ⟨v0, v1, v2, v3, v4, v5, v6, v7, v8⟩ := nine_box hSw.2; have w9 := HCell.out wS hSw.1; go_simp; try with_reducible rfl)
  simp only [Act.put, List.setIfInBounds_toArray, List.set_cons_zero, List.set_cons_succ]
  refine wpAnyH_take (i := 4) (oi := ⟨_, _, _, _, _, _⟩) (v := ?v4) rfl (by kernel_rfl) (by kernel_rfl) (by kernel_rfl) (fun _ _ _ h => h) ?y4 hS ?_
  case y4 => first | (refine Or.inr ⟨by rfl, ?_⟩; with_reducible rfl) | (refine Or.inl ⟨by rfl, ?_⟩; intro wS hSw; obtain ⟨v0, v1, v2, v3, v4, v5, v6, v7, v8⟩ := nine_box hSw.2; have w9 := HCell.out wS hSw.1; go_simp; try with_reducible rfl)
  simp only [Act.put, List.setIfInBounds_toArray, List.set_cons_zero, List.set_cons_succ]
  refine wpAnyH_take (i := 5) (oi := ⟨_, _, _, _, _, _⟩) (v := ?v5) rfl (by kernel_rfl) (by kernel_rfl) (by kernel_rfl) (fun _ _ _ h => h) ?y5 hS ?_
  case y5 => first | (refine Or.inr ⟨by rfl, ?_⟩; with_reducible rfl) | (refine Or.inl ⟨by rfl, ?_⟩; intro wS hSw; obtain ⟨v0, v1, v2, v3, v4, v5, v6, v7, v8⟩ := nine_box hSw.2; have w9 := HCell.out wS hSw.1; go_simp; try with_reducible rfl)
  simp only [Act.put, List.setIfInBounds_toArray, List.set_cons_zero, List.set_cons_succ]
  refine wpAnyH_take (i := 6) (oi := ⟨_, _, _, _, _, _⟩) (v := ?v6) rfl (by kernel_rfl) (by kernel_rfl) (by kernel_rfl) (fun _ _ _ h => h) ?y6 hS ?_
  case y6 => first | (refine Or.inr ⟨by rfl, ?_⟩; with_reducible rfl) | (refine Or.inl ⟨by rfl, ?_⟩; intro wS hSw; obtain ⟨v0, v1, v2, v3, v4, v5, v6, v7, v8⟩ := nine_box hSw.2; have w9 := HCell.out wS hSw.1; go_simp; try with_reducible rfl)
  simp only [Act.put, List.setIfInBounds_toArray, List.set_cons_zero, List.set_cons_succ]
  refine wpAnyH_ready (rs := [2]) (by kernel_rfl) (by simp) ?_
  refine AllReadyH.cons (o := ⟨_, _, _, _, _, _⟩) rfl (fun K hK => ?_) AllReadyH.nil
  go_simp
  refine (upTo_any (p : Int) _).mono ?_
  rintro e z ⟨rfl, hb⟩
  go_wp2_with fail
  have hu : Below u.heap.size u z := (Below.refl u.heap.size u).drew.trans hb
  have hSz : Below C.w0.heap.size C.w0 z ∧ z.heap[X]? = some (.cells #[.int .i64 kind, .int .u64 c0, .int .u64 c1, .int .u64 c2, .int .u64 c3, .string text, .int .i64 rule, .int .i64 level, .slice (some ⟨b, off, none⟩) kn kc] 60 (0, 0)) := ⟨(HT.out.later hu).bel, (hu.block _ (lt_of_block H1.out)).trans H1.out⟩
  refine hK.out _ _ hSz (fun hS2 => ?_)
  clear hK K hS hS2
  try simp only [Act.put, List.setIfInBounds_toArray, List.set_cons_zero, List.set_cons_succ]
  have HTz := Lib.hid (HT.out.later hu)
  have HKz := Lib.hid (KeepT.tra HK.out (KeepT.ofBelow hu))
  have H2z := Lib.hid ((hu.block _ (lt_of_block H2.out)).trans H2.out)
  have hS := hSz
  have HMore := Lib.hid (show Calls Tryz.prog 161 #[.pointer (some ⟨C.tb, 0, none⟩), .agg #[.bool true, .int .i64 p, .int .i64 (-1), .int .i64 0, .slice none 0 0], .int .i64 kN] z (Post C F r st' z) from more_any (n := f + 1) HHC.out HM.out HL.out (upTo_ok C.W (Nat.le_refl p) HPw.out) HkN.out z (TwIn.nil _) HTz.out hl HE2.out)
  rw [← HTb.out] at HMore
  clear hSz hu hb
  refine wpAnyH_ready (rs := [7]) (by kernel_rfl) (by simp) ?_
  refine AllReadyH.cons (o := ⟨_, _, _, _, _, _⟩) rfl (fun K hK => ?_) AllReadyH.nil
  go_simp
  refine HMore.out.mono ?_
  rintro e z1 ⟨⟨v, rfl, fv, rfl, hfv⟩, htz, hkz⟩
  obtain ⟨fa, fc, rfl⟩ := hfv.1.val
  have HFv := Lib.hid hfv
  have HT1 := Lib.hid htz
  have HK1 := Lib.hid (KeepT.tra HKz.out hkz : KeepT C.w0.heap.size TTm true w z1)
  have hS1 : Below C.w0.heap.size C.w0 z1 ∧ z1.heap[X]? = some (.cells #[.int .i64 kind, .int .u64 c0, .int .u64 c1, .int .u64 c2, .int .u64 c3, .string text, .int .i64 rule, .int .i64 level, .slice (some ⟨b, off, none⟩) kn kc] 60 (0, 0)) := ⟨htz.bel, hkz.cells hS.2 (by decide)⟩
  have H21 := Lib.hid (hkz.cells H2z.out (by decide))
  unfold foV foC
  obtain ⟨fn, hfn⟩ : ∃ fn, fn = (foF r).length := ⟨_, rfl⟩
  rw [← hfn] at HFv ⊢
  clear hfv htz hkz hfn hS
  go_wp2_with fail
  refine hK.out _ _ hS1 (fun hS2 => ?_)
  clear hK K hS2
  try simp only [Act.put, List.setIfInBounds_toArray, List.set_cons_zero, List.set_cons_succ]
  refine wpAnyH_ready (rs := [8]) (by kernel_rfl) (by simp) ?_
  refine AllReadyH.cons (o := ⟨_, _, _, _, _, _⟩) rfl (fun K hK => ?_) AllReadyH.nil
  obtain ⟨d0, d1, d2, d3, d4⟩ := five_box H21.out
  obtain ⟨g0, g1, g2, g3, g4⟩ := five_frz H21.out
  go_simp
  obtain ⟨k5, hk5⟩ := set5 H21.out (.bool (foIs r)) (.int .i64 (foEn r)) (.int .i64 (foFar r)) (.int .i64 (foRt r)) (.slice fa fn fc)
  have hxw : w.heap.size ≤ X + 1 := by have := HX.out; omega
  refine hK.out _ _ ⟨(HT1.out.res H21.out (Nat.le_trans H.out.base hxw) hk5).bel, hk5.obj hS1.2 (show ¬ X = X + 1 by omega)⟩ (fun hS3 => ?_)
  clear hK K hS3 hS1
  try simp only [Act.put, List.setIfInBounds_toArray, List.set_cons_zero, List.set_cons_succ]
  refine wpAnyH_done (by kernel_rfl) ?_ _
  go_wp2
  obtain ⟨q0, q1, q2, q3, q4⟩ := five_box k5
  exact bodyPost_ret (v := .agg #[.bool (foIs r), .int .i64 (foEn r), .int .i64 (foFar r), .int .i64 (foRt r), .slice fa fn fc]) (by simp [results, Tryz.f132, go_sem, q0, q1, q2, q3, q4]) rfl ⟨⟨_, rfl, _, rfl, HFv.out.res H21.out hk5⟩, HT1.out.res H21.out (Nat.le_trans H.out.base hxw) hk5, HK1.out.endAt hxw hk5⟩
set_option maxRecDepth 100000 in
set_option maxHeartbeats 8000000 in
theorem way_plus {C : Cx} (hC : CxOk C) {f : Nat} {x : Nd} (hx : x ∈ C.N) (hkd : x.kind = 9) (hM : MatchC C f) : WayC C f x := by
  intro p F st r st' w h hL hp hl he
  unfold nodeE at he
  rw [if_neg (by rw [hkd]; decide), if_neg (by rw [hkd]; decide), if_neg (by rw [hkd]; decide), if_neg (by rw [hkd]; decide), if_neg (by rw [hkd]; decide), if_neg (by rw [hkd]; decide)] at he
  rw [show wayF x.kind = 133 from by unfold wayF; rw [hkd]; rfl]
  have H := Lib.hid h
  have HC := Lib.hid hC
  have HL := Lib.hid hL
  have HM := Lib.hid hM
  have HE := Lib.hid he
  have hxw := hC.gr.wf x hx
  have hW := hC.hW
  have hEv := ev_ok (doc := false) hC.gv hW f
  obtain ⟨⟨ra, rc, hrv⟩, ⟨na, nc, hnv⟩, ⟨wa, wc, hwv⟩⟩ := hC.shape
  obtain ⟨ka, kc, hkv⟩ := hxw.kv
  obtain ⟨tb, htb⟩ : ∃ tb, tb = C.tb := ⟨_, rfl⟩
  have HTb := Lib.hid htb
  rw [← htb]
  obtain ⟨wl, hwl⟩ : ∃ wl, wl = C.W.length := ⟨_, rfl⟩
  have HWl := Lib.hid hwl
  rw [← hwl] at hwv hp hW
  have HWv := Lib.hid hwv
  have hne := hC.gv.one x hx (by omega)
  obtain ⟨k0, ks, hks⟩ : ∃ k0 ks, x.kids = k0 :: ks := by
    cases hq : x.kids with
    | nil => exact absurd hq hne
    | cons a b => exact ⟨a, b, rfl⟩
  obtain ⟨b, off, kN, rfl, hkk, hkN, hcell⟩ := hC.kid hx hkv 0 (by rw [hks]; simp)
  have hk0 : k0 = (kN : Int) := by rw [← hkk]; simp [hks]
  subst hk0
  rw [hks] at he
  simp only [Int.toNat_natCast] at he
  have hfew : 0 < x.kids.length := by rw [hks]; simp
  rw [Nat.add_zero] at hcell
  have HCell := Lib.hid hcell
  have HkN := Lib.hid hkN
  obtain ⟨kind, c0, c1, c2, c3, text, rule, level, kids, kv⟩ := x
  simp only at hkv hfew hkd he
  subst hkv
  unfold ndv
  simp only
  obtain ⟨kn, hkn⟩ : ∃ kn, kn = kids.length := ⟨_, rfl⟩
  have HKn := Lib.hid hkn
  rw [← hkn]
  clear hkn
  have hk0 : (0 : Int) < (kn : Int) := by rw [HKn.out]; omega
  have hk1 : 0 < kn := by omega
  have hpw : p ≤ C.W.length := by rw [← HWl.out]; exact hp
  have HPw := Lib.hid hpw
  have HEv := Lib.hid hEv
  have HE2 := Lib.hid he
  have HHC := Lib.hid hC
  clear h hL hM he hx hxw hrv hnv hwv htb hwl hEv hne hks hkk hkN hcell hfew hpw HE
  rw [if_neg (by omega), if_pos hkd] at HE2
  clear hkd
  cases hE : ev false C.R C.N C.W f kN p (lvF F) st with
  | none => rw [hE] at HE2; exact absurd HE2.out (by simp)
  | some q1 =>
  obtain ⟨q, s1⟩ := q1
  rw [hE] at HE2
  have HQ := Lib.hid (HEv.out kN p (lvF F) st q s1 HPw.out HL.out.ok hE)
  have HSl := Lib.hid (ev_left f kN p (lvF F) st q s1 hE)
  go_enter Tryz.func133, Tryz.ntmps133
  go_upto_region 1 with (fail)
  refine gen_world (S := fun u => Below w.heap.size w u ∧ u.heap[w.heap.size]? = some (.cells #[.int .i64 kind, .int .u64 c0, .int .u64 c1, .int .u64 c2, .int .u64 c3, .string text, .int .i64 rule, .int .i64 level, .slice (some ⟨b, off, none⟩) kn kc] 60 (0, 0)) ∧ u.heap[w.heap.size + 1]? = some (.cells #[.bool false, .int .i64 0, .int .i64 0, .int .i64 0, .slice none 0 0] 73 (0, 0))) (two_new w _ _) (fun u hu => ?_)
  obtain ⟨hb, h1, h2⟩ := hu
  have HB := Lib.hid hb
  have H1 := Lib.hid h1
  have H2 := Lib.hid h2
  obtain ⟨X, hX⟩ : ∃ X, X = w.heap.size := ⟨_, rfl⟩
  rw [← hX] at H1 H2 ⊢
  have HX := Lib.hid hX
  have HT := Lib.hid (H.out.later hb)
  have HK := Lib.hid (KeepT.ofBelow hb : KeepT C.w0.heap.size TTm true w u)
  clear hb h1 h2 hX
  have HCall := Lib.hid (HM.out kN p F st q s1 u HT.out HL.out HPw.out HkN.out hl hE)
  rw [← HTb.out] at HCall
  obtain ⟨v0, v1, v2, v3, v4, v5, v6, v7, v8⟩ := nine_box H1.out
  have w9 := HCell.out u HT.out.bel
  clear hE
  go_wp2_with fail
  refine HCall.out.mono ?_
  rintro e z ⟨⟨v, rfl, fv2, rfl, hfv2⟩, htz, hkz⟩
  obtain ⟨fa2, fc2, rfl⟩ := hfv2.1.val
  have HFv2 := Lib.hid hfv2
  have HTz := Lib.hid htz
  have HKz := Lib.hid (KeepT.tra HK.out hkz)
  have H1z := Lib.hid (hkz.cells H1.out (by decide))
  have H2z := Lib.hid (hkz.cells H2.out (by decide))
  unfold foV foC
  obtain ⟨m2, hm2⟩ : ∃ m2, m2 = (foF q).length := ⟨_, rfl⟩
  rw [← hm2] at HFv2 ⊢
  clear hfv2 htz hkz v0 v1 v2 v3 v4 v5 v6 v7 v8 w9 hm2 HCall
  go_upto_region 2 with (fail)
  have hn2 := one_new z (.cells #[.bool (foIs q), .int .i64 (foEn q), .int .i64 (foFar q), .int .i64 (foRt q), .slice fa2 m2 fc2] 73 (0, 0))
  refine gen_world (S := fun y => Below z.heap.size z y ∧ y.heap[z.heap.size]? = some (.cells #[.bool (foIs q), .int .i64 (foEn q), .int .i64 (foFar q), .int .i64 (foRt q), .slice fa2 m2 fc2] 73 (0, 0))) hn2 (fun y2 hy2 => ?_)
  obtain ⟨hb2, hf2⟩ := hy2
  obtain ⟨V, hV⟩ : ∃ V, V = z.heap.size := ⟨_, rfl⟩
  rw [← hV] at hf2 ⊢
  have HT2 := Lib.hid (HTz.out.later hb2)
  have HK2 := Lib.hid (KeepT.tra HKz.out (KeepT.ofBelow hb2))
  have H12 := Lib.hid ((hb2.block _ (lt_of_block H1z.out)).trans H1z.out)
  have H22 := Lib.hid ((hb2.block _ (lt_of_block H2z.out)).trans H2z.out)
  have HQ2 := Lib.hid (show FoBox y2 V q (.slice fa2 m2 fc2) from ⟨hf2, HFv2.out.later hb2⟩)
  have HVX := Lib.hid (show X + 1 < V by rw [hV]; exact lt_of_block H2z.out)
  clear hn2 hb2 hf2 hV HTz HKz H1z H2z HFv2 HT HK H1 H2
  have hcq := HQ2.out.cells
  cases q with
  | miss fr =>
    simp only [foIs, foEn, foFar, foRt] at hcq ⊢
    obtain ⟨e0, e1, e2, e3, e4⟩ := hcq
    have hst := HE2.out
    simp only [Option.some.injEq, Prod.mk.injEq] at hst
    obtain ⟨hr1, hs1⟩ := hst
    have HR1 := Lib.hid hr1
    have HS1 := Lib.hid hs1
    clear hr1 hs1
    obtain ⟨d0, d1, d2, d3, d4⟩ := five_box H22.out
    obtain ⟨g0, g1, g2, g3, g4⟩ := five_frz H22.out
    go_wp2
    rw [← HS1.out, ← HR1.out]
    obtain ⟨k5, hk5⟩ := set5 H22.out (.bool false) (.int .i64 0) (.int .i64 fr) (.int .i64 0) (.slice fa2 m2 fc2)
    obtain ⟨q0, q1, q2, q3, q4⟩ := five_box k5
    have hxw : w.heap.size ≤ X + 1 := by have := HX.out; omega
    exact bodyPost_ret (v := .agg #[.bool false, .int .i64 0, .int .i64 fr, .int .i64 0, .slice fa2 m2 fc2]) (by simp [results, Tryz.f133, go_sem, q0, q1, q2, q3, q4]) rfl ⟨⟨_, rfl, _, rfl, HQ2.out.2.res H22.out hk5⟩, HT2.out.res H22.out (Nat.le_trans H.out.base hxw) hk5, HK2.out.endAt hxw hk5⟩
  | hit h2 =>
    simp only [foIs, foEn, foFar, foRt] at hcq ⊢
    obtain ⟨e0, e1, e2, e3, e4⟩ := hcq
    have HMore := Lib.hid (fun z (ht : TrS C F s1 z) (hw : TwIn z (.slice fa2 m2 fc2) h2.forest) => more_any (n := f + 1) HHC.out HM.out HL.out HQ.out HkN.out z hw ht (Nat.le_trans HSl.out.1 hl) HE2.out)
    rw [← HTb.out] at HMore
    go_upto_region 4 with (fail)
    clear e0 e1 e2 e3 e4
    refine wp_region_held_drew (S := fun z => Below C.w0.heap.size C.w0 z ∧ z.heap[X]? = some (.cells #[.int .i64 kind, .int .u64 c0, .int .u64 c1, .int .u64 c2, .int .u64 c3, .string text, .int .i64 rule, .int .i64 level, .slice (some ⟨b, off, none⟩) kn kc] 60 (0, 0)) ∧ FoBox z V (.hit h2) (.slice fa2 m2 fc2)) (by kernel_rfl) ⟨HT2.out.bel.drew, H12.out, HQ2.out.later ((Below.refl _ _).drew)⟩ (fun hS => ?_)
    refine wpAnyH_take (i := 0) (oi := ⟨_, _, _, _, _, _⟩) (v := ?v7) rfl (by kernel_rfl) (by kernel_rfl) (by kernel_rfl) (fun _ _ _ h => h) ?y7 hS ?_
    case y7 => first | (refine Or.inr ⟨by rfl, ?_⟩; with_reducible rfl) | (refine Or.inl ⟨by rfl, ?_⟩; intro wS hSw; obtain ⟨v0, v1, v2, v3, v4, v5, v6, v7, v8⟩ := nine_box hSw.2.1; have w9 := HCell.out wS hSw.1; have hcn := hSw.2.2.cells; simp only [foIs, foEn, foFar, foRt] at hcn; obtain ⟨c0, c1, c2, c3, c4⟩ := hcn; go_simp; try with_reducible rfl)
    simp only [Act.put, List.setIfInBounds_toArray, List.set_cons_zero, List.set_cons_succ]
    refine wpAnyH_take (i := 1) (oi := ⟨_, _, _, _, _, _⟩) (v := ?v8) rfl (by kernel_rfl) (by kernel_rfl) (by kernel_rfl) (fun _ _ _ h => h) ?y8 hS ?_
    case y8 => first | (refine Or.inr ⟨by rfl, ?_⟩; with_reducible rfl) | (refine Or.inl ⟨by rfl, ?_⟩; intro wS hSw; obtain ⟨v0, v1, v2, v3, v4, v5, v6, v7, v8⟩ := nine_box hSw.2.1; have w9 := HCell.out wS hSw.1; have hcn := hSw.2.2.cells; simp only [foIs, foEn, foFar, foRt] at hcn; obtain ⟨c0, c1, c2, c3, c4⟩ := hcn; go_simp; try with_reducible rfl)
    simp only [Act.put, List.setIfInBounds_toArray, List.set_cons_zero, List.set_cons_succ]
    refine wpAnyH_take (i := 2) (oi := ⟨_, _, _, _, _, _⟩) (v := ?v9) rfl (by kernel_rfl) (by kernel_rfl) (by kernel_rfl) (fun _ _ _ h => h) ?y9 hS ?_
    case y9 => first | (refine Or.inr ⟨by rfl, ?_⟩; with_reducible rfl) | (refine Or.inl ⟨by rfl, ?_⟩; intro wS hSw; obtain ⟨v0, v1, v2, v3, v4, v5, v6, v7, v8⟩ := nine_box hSw.2.1; have w9 := HCell.out wS hSw.1; have hcn := hSw.2.2.cells; simp only [foIs, foEn, foFar, foRt] at hcn; obtain ⟨c0, c1, c2, c3, c4⟩ := hcn; go_simp; try with_reducible rfl)
    simp only [Act.put, List.setIfInBounds_toArray, List.set_cons_zero, List.set_cons_succ]
    refine wpAnyH_take (i := 3) (oi := ⟨_, _, _, _, _, _⟩) (v := ?v10) rfl (by kernel_rfl) (by kernel_rfl) (by kernel_rfl) (fun _ _ _ h => h) ?y10 hS ?_
    case y10 => first | (refine Or.inr ⟨by rfl, ?_⟩; with_reducible rfl) | (refine Or.inl ⟨by rfl, ?_⟩; intro wS hSw; obtain ⟨v0, v1, v2, v3, v4, v5, v6, v7, v8⟩ := nine_box hSw.2.1; have w9 := HCell.out wS hSw.1; have hcn := hSw.2.2.cells; simp only [foIs, foEn, foFar, foRt] at hcn; obtain ⟨c0, c1, c2, c3, c4⟩ := hcn; go_simp; try with_reducible rfl)
    simp only [Act.put, List.setIfInBounds_toArray, List.set_cons_zero, List.set_cons_succ]
    refine wpAnyH_take (i := 4) (oi := ⟨_, _, _, _, _, _⟩) (v := ?v11) rfl (by kernel_rfl) (by kernel_rfl) (by kernel_rfl) (fun _ _ _ h => h) ?y11 hS ?_
    case y11 => first | (refine Or.inr ⟨by rfl, ?_⟩; with_reducible rfl) | (refine Or.inl ⟨by rfl, ?_⟩; intro wS hSw; obtain ⟨v0, v1, v2, v3, v4, v5, v6, v7, v8⟩ := nine_box hSw.2.1; have w9 := HCell.out wS hSw.1; have hcn := hSw.2.2.cells; simp only [foIs, foEn, foFar, foRt] at hcn; obtain ⟨c0, c1, c2, c3, c4⟩ := hcn; go_simp; try with_reducible rfl)
    simp only [Act.put, List.setIfInBounds_toArray, List.set_cons_zero, List.set_cons_succ]
    refine wpAnyH_take (i := 5) (oi := ⟨_, _, _, _, _, _⟩) (v := ?v12) rfl (by kernel_rfl) (by kernel_rfl) (by kernel_rfl) (fun _ _ _ h => h) ?y12 hS ?_
    case y12 => first | (refine Or.inr ⟨by rfl, ?_⟩; with_reducible rfl) | (refine Or.inl ⟨by rfl, ?_⟩; intro wS hSw; obtain ⟨v0, v1, v2, v3, v4, v5, v6, v7, v8⟩ := nine_box hSw.2.1; have w9 := HCell.out wS hSw.1; have hcn := hSw.2.2.cells; simp only [foIs, foEn, foFar, foRt] at hcn; obtain ⟨c0, c1, c2, c3, c4⟩ := hcn; go_simp; try with_reducible rfl)
    simp only [Act.put, List.setIfInBounds_toArray, List.set_cons_zero, List.set_cons_succ]
    refine wpAnyH_ready (rs := [6]) (by kernel_rfl) (by simp) ?_
    refine AllReadyH.cons (o := ⟨_, _, _, _, _, _⟩) rfl (fun K hK => ?_) AllReadyH.nil
    go_simp
    refine (HMore.out _ (HT2.out.later ((Below.refl _ _).drew)) (HQ2.out.2.later ((Below.refl _ _).drew))).mono ?_
    rintro e z1 ⟨⟨v, rfl, fv, rfl, hfv⟩, htz, hkz⟩
    obtain ⟨fa, fc, rfl⟩ := hfv.1.val
    have HFv := Lib.hid hfv
    have HT1 := Lib.hid htz
    have HK1 := Lib.hid (KeepT.tra (KeepT.tra HK2.out (KeepT.ofBelow ((Below.refl _ _).drew))) hkz : KeepT C.w0.heap.size TTm true w z1)
    have hS1 : Below C.w0.heap.size C.w0 z1 ∧ z1.heap[X]? = some (.cells #[.int .i64 kind, .int .u64 c0, .int .u64 c1, .int .u64 c2, .int .u64 c3, .string text, .int .i64 rule, .int .i64 level, .slice (some ⟨b, off, none⟩) kn kc] 60 (0, 0)) ∧ FoBox z1 V (.hit h2) (.slice fa2 m2 fc2) := ⟨htz.bel, hkz.cells hS.2.1 (by decide), hS.2.2.keepT hkz⟩
    have H21 := Lib.hid (hkz.cells ((((Below.refl y2.heap.size y2).drew.block _ (lt_of_block H22.out))).trans H22.out) (by decide))
    unfold foV foC
    obtain ⟨fn, hfn⟩ : ∃ fn, fn = (foF r).length := ⟨_, rfl⟩
    rw [← hfn] at HFv ⊢
    clear hfv htz hkz hfn hS
    go_wp2_with fail
    refine hK.out _ _ hS1 (fun hS2 => ?_)
    clear hK K hS2
    try simp only [Act.put, List.setIfInBounds_toArray, List.set_cons_zero, List.set_cons_succ]
    refine wpAnyH_ready (rs := [7]) (by kernel_rfl) (by simp) ?_
    refine AllReadyH.cons (o := ⟨_, _, _, _, _, _⟩) rfl (fun K hK => ?_) AllReadyH.nil
    obtain ⟨d0, d1, d2, d3, d4⟩ := five_box H21.out
    obtain ⟨g0, g1, g2, g3, g4⟩ := five_frz H21.out
    go_simp
    obtain ⟨k5, hk5⟩ := set5 H21.out (.bool (foIs r)) (.int .i64 (foEn r)) (.int .i64 (foFar r)) (.int .i64 (foRt r)) (.slice fa fn fc)
    have hxw : w.heap.size ≤ X + 1 := by have := HX.out; omega
    refine hK.out _ _ ⟨(HT1.out.res H21.out (Nat.le_trans H.out.base hxw) hk5).bel, hk5.obj hS1.2.1 (show ¬ X = X + 1 by omega), hS1.2.2.other H21.out hk5 (by have := HVX.out; omega)⟩ (fun hS3 => ?_)
    clear hK K hS3 hS1
    try simp only [Act.put, List.setIfInBounds_toArray, List.set_cons_zero, List.set_cons_succ]
    refine wpAnyH_done (by kernel_rfl) ?_ _
    go_wp2
    obtain ⟨q0, q1, q2, q3, q4⟩ := five_box k5
    exact bodyPost_ret (v := .agg #[.bool (foIs r), .int .i64 (foEn r), .int .i64 (foFar r), .int .i64 (foRt r), .slice fa fn fc]) (by simp [results, Tryz.f133, go_sem, q0, q1, q2, q3, q4]) rfl ⟨⟨_, rfl, _, rfl, HFv.out.res H21.out hk5⟩, HT1.out.res H21.out (Nat.le_trans H.out.base hxw) hk5, HK1.out.endAt hxw hk5⟩
set_option maxRecDepth 100000 in
set_option maxHeartbeats 8000000 in
theorem way_opt {C : Cx} (hC : CxOk C) {f : Nat} {x : Nd} (hx : x ∈ C.N) (hkd : x.kind = 10) (hM : MatchC C f) : WayC C f x := by
  intro p F st r st' w h hL hp hl he
  unfold nodeE at he
  rw [if_neg (by rw [hkd]; decide), if_neg (by rw [hkd]; decide), if_neg (by rw [hkd]; decide), if_neg (by rw [hkd]; decide), if_neg (by rw [hkd]; decide), if_neg (by rw [hkd]; decide)] at he
  rw [show wayF x.kind = 134 from by unfold wayF; rw [hkd]; rfl]
  have H := Lib.hid h
  have HC := Lib.hid hC
  have HL := Lib.hid hL
  have HM := Lib.hid hM
  have HE := Lib.hid he
  have hxw := hC.gr.wf x hx
  have hW := hC.hW
  have hEv := ev_ok (doc := false) hC.gv hW f
  obtain ⟨⟨ra, rc, hrv⟩, ⟨na, nc, hnv⟩, ⟨wa, wc, hwv⟩⟩ := hC.shape
  obtain ⟨ka, kc, hkv⟩ := hxw.kv
  obtain ⟨tb, htb⟩ : ∃ tb, tb = C.tb := ⟨_, rfl⟩
  have HTb := Lib.hid htb
  rw [← htb]
  obtain ⟨wl, hwl⟩ : ∃ wl, wl = C.W.length := ⟨_, rfl⟩
  have HWl := Lib.hid hwl
  rw [← hwl] at hwv hp hW
  have HWv := Lib.hid hwv
  have hne := hC.gv.one x hx (by omega)
  obtain ⟨k0, ks, hks⟩ : ∃ k0 ks, x.kids = k0 :: ks := by
    cases hq : x.kids with
    | nil => exact absurd hq hne
    | cons a b => exact ⟨a, b, rfl⟩
  obtain ⟨b, off, kN, rfl, hkk, hkN, hcell⟩ := hC.kid hx hkv 0 (by rw [hks]; simp)
  have hk0 : k0 = (kN : Int) := by rw [← hkk]; simp [hks]
  subst hk0
  rw [hks] at he
  simp only [Int.toNat_natCast] at he
  have hfew : 0 < x.kids.length := by rw [hks]; simp
  rw [Nat.add_zero] at hcell
  have HCell := Lib.hid hcell
  have HkN := Lib.hid hkN
  obtain ⟨kind, c0, c1, c2, c3, text, rule, level, kids, kv⟩ := x
  simp only at hkv hfew hkd he
  subst hkv
  unfold ndv
  simp only
  obtain ⟨kn, hkn⟩ : ∃ kn, kn = kids.length := ⟨_, rfl⟩
  have HKn := Lib.hid hkn
  rw [← hkn]
  clear hkn
  have hk0 : (0 : Int) < (kn : Int) := by rw [HKn.out]; omega
  have hk1 : 0 < kn := by omega
  have hpw : p ≤ C.W.length := by rw [← HWl.out]; exact hp
  have HPw := Lib.hid hpw
  have HEv := Lib.hid hEv
  have HE2 := Lib.hid he
  have HHC := Lib.hid hC
  clear h hL hM he hx hxw hrv hnv hwv htb hwl hEv hne hks hkk hkN hcell hfew hpw HE
  rw [if_neg (by omega), if_neg (by omega), if_pos hkd] at HE2
  clear hkd
  cases hE : ev false C.R C.N C.W f kN p (lvF F) st with
  | none => rw [hE] at HE2; exact absurd HE2.out (by simp)
  | some q1 =>
  obtain ⟨q, s1⟩ := q1
  rw [hE] at HE2
  have HQ := Lib.hid (HEv.out kN p (lvF F) st q s1 HPw.out HL.out.ok hE)
  have HSl := Lib.hid (ev_left f kN p (lvF F) st q s1 hE)
  go_enter Tryz.func134, Tryz.ntmps134
  go_upto_region 1 with (fail)
  refine gen_world (S := fun u => Below w.heap.size w u ∧ u.heap[w.heap.size]? = some (.cells #[.int .i64 kind, .int .u64 c0, .int .u64 c1, .int .u64 c2, .int .u64 c3, .string text, .int .i64 rule, .int .i64 level, .slice (some ⟨b, off, none⟩) kn kc] 60 (0, 0)) ∧ u.heap[w.heap.size + 1]? = some (.cells #[.bool false, .int .i64 0, .int .i64 0, .int .i64 0, .slice none 0 0] 73 (0, 0))) (two_new w _ _) (fun u hu => ?_)
  obtain ⟨hb, h1, h2⟩ := hu
  have HB := Lib.hid hb
  have H1 := Lib.hid h1
  have H2 := Lib.hid h2
  obtain ⟨X, hX⟩ : ∃ X, X = w.heap.size := ⟨_, rfl⟩
  rw [← hX] at H1 H2 ⊢
  have HX := Lib.hid hX
  have HT := Lib.hid (H.out.later hb)
  have HK := Lib.hid (KeepT.ofBelow hb : KeepT C.w0.heap.size TTm true w u)
  clear hb h1 h2 hX
  have HCall := Lib.hid (HM.out kN p F st q s1 u HT.out HL.out HPw.out HkN.out hl hE)
  rw [← HTb.out] at HCall
  obtain ⟨v0, v1, v2, v3, v4, v5, v6, v7, v8⟩ := nine_box H1.out
  have w9 := HCell.out u HT.out.bel
  clear hE
  go_wp2_with fail
  refine HCall.out.mono ?_
  rintro e z ⟨⟨v, rfl, fv2, rfl, hfv2⟩, htz, hkz⟩
  obtain ⟨fa2, fc2, rfl⟩ := hfv2.1.val
  have HFv2 := Lib.hid hfv2
  have HTz := Lib.hid htz
  have HKz := Lib.hid (KeepT.tra HK.out hkz)
  have H1z := Lib.hid (hkz.cells H1.out (by decide))
  have H2z := Lib.hid (hkz.cells H2.out (by decide))
  unfold foV foC
  obtain ⟨m2, hm2⟩ : ∃ m2, m2 = (foF q).length := ⟨_, rfl⟩
  rw [← hm2] at HFv2 ⊢
  clear hfv2 htz hkz v0 v1 v2 v3 v4 v5 v6 v7 v8 w9 hm2 HCall
  go_upto_region 2 with (fail)
  have hn2 := one_new z (.cells #[.bool (foIs q), .int .i64 (foEn q), .int .i64 (foFar q), .int .i64 (foRt q), .slice fa2 m2 fc2] 73 (0, 0))
  refine gen_world (S := fun y => Below z.heap.size z y ∧ y.heap[z.heap.size]? = some (.cells #[.bool (foIs q), .int .i64 (foEn q), .int .i64 (foFar q), .int .i64 (foRt q), .slice fa2 m2 fc2] 73 (0, 0))) hn2 (fun y2 hy2 => ?_)
  obtain ⟨hb2, hf2⟩ := hy2
  obtain ⟨V, hV⟩ : ∃ V, V = z.heap.size := ⟨_, rfl⟩
  rw [← hV] at hf2 ⊢
  have HT2 := Lib.hid (HTz.out.later hb2)
  have HK2 := Lib.hid (KeepT.tra HKz.out (KeepT.ofBelow hb2))
  have H12 := Lib.hid ((hb2.block _ (lt_of_block H1z.out)).trans H1z.out)
  have H22 := Lib.hid ((hb2.block _ (lt_of_block H2z.out)).trans H2z.out)
  have HQ2 := Lib.hid (show FoBox y2 V q (.slice fa2 m2 fc2) from ⟨hf2, HFv2.out.later hb2⟩)
  have HVX := Lib.hid (show X + 1 < V by rw [hV]; exact lt_of_block H2z.out)
  clear hn2 hb2 hf2 hV HTz HKz H1z H2z HFv2 HT HK H1 H2
  have hcq := HQ2.out.cells
  cases q with
  | miss fr =>
    simp only [foIs, foEn, foFar, foRt] at hcq ⊢
    obtain ⟨e0, e1, e2, e3, e4⟩ := hcq
    have hst := HE2.out
    simp only [Option.map_some, optE] at hst
    simp only [Option.some.injEq, Prod.mk.injEq] at hst
    obtain ⟨hr1, hs1⟩ := hst
    have HR1 := Lib.hid hr1
    have HS1 := Lib.hid hs1
    clear hr1 hs1
    go_upto_region 3 with (fail)
    clear e0 e1 e2 e3 e4
    refine wp_region_held_drew (S := fun z => FoBox z V (.miss fr) (.slice fa2 m2 fc2)) (by kernel_rfl) (HQ2.out.later ((Below.refl _ _).drew)) (fun hS => ?_)
    refine wpAnyH_take (i := 0) (oi := ⟨_, _, _, _, _, _⟩) (v := ?v13) rfl (by kernel_rfl) (by kernel_rfl) (by kernel_rfl) (fun _ _ _ h => h) ?y13 hS ?_
    case y13 => first | (refine Or.inr ⟨by rfl, ?_⟩; with_reducible rfl) | (refine Or.inl ⟨by rfl, ?_⟩; intro wS hSw; have hcn := hSw.cells; simp only [foIs, foEn, foFar, foRt] at hcn; obtain ⟨e0, e1, e2, e3, e4⟩ := hcn; go_simp; try with_reducible rfl)
    simp only [Act.put, List.setIfInBounds_toArray, List.set_cons_zero, List.set_cons_succ]
    refine wpAnyH_take (i := 2) (oi := ⟨_, _, _, _, _, _⟩) (v := ?v14) rfl (by kernel_rfl) (by kernel_rfl) (by kernel_rfl) (fun _ _ _ h => h) ?y14 hS ?_
    case y14 => first | (refine Or.inr ⟨by rfl, ?_⟩; with_reducible rfl) | (refine Or.inl ⟨by rfl, ?_⟩; intro wS hSw; have hcn := hSw.cells; simp only [foIs, foEn, foFar, foRt] at hcn; obtain ⟨e0, e1, e2, e3, e4⟩ := hcn; go_simp; try with_reducible rfl)
    simp only [Act.put, List.setIfInBounds_toArray, List.set_cons_zero, List.set_cons_succ]
    refine wpAnyH_take (i := 3) (oi := ⟨_, _, _, _, _, _⟩) (v := ?v15) rfl (by kernel_rfl) (by kernel_rfl) (by kernel_rfl) (fun _ _ _ h => h) ?y15 hS ?_
    case y15 => first | (refine Or.inr ⟨by rfl, ?_⟩; with_reducible rfl) | (refine Or.inl ⟨by rfl, ?_⟩; intro wS hSw; have hcn := hSw.cells; simp only [foIs, foEn, foFar, foRt] at hcn; obtain ⟨e0, e1, e2, e3, e4⟩ := hcn; go_simp; try with_reducible rfl)
    simp only [Act.put, List.setIfInBounds_toArray, List.set_cons_zero, List.set_cons_succ]
    refine wpAnyH_ready (rs := [1]) (by kernel_rfl) (by simp) ?_
    refine AllReadyH.cons (o := ⟨_, _, _, _, _, _⟩) rfl (fun K hK => ?_) AllReadyH.nil
    go_simp
    refine (upTo_any (p : Int) _).mono ?_
    rintro e z ⟨rfl, hb⟩
    go_wp2_with fail
    refine hK.out _ _ (hS.later hb) (fun hS2 => ?_)
    have hba : Below y2.heap.size y2 z := (Below.refl y2.heap.size y2).drew.trans hb
    clear hK K hb hS2
    try simp only [Act.put, List.setIfInBounds_toArray, List.set_cons_zero, List.set_cons_succ]
    refine wpAnyH_ready (rs := [4]) (by kernel_rfl) (by simp) ?_
    refine AllReadyH.cons (o := ⟨_, _, _, _, _, _⟩) rfl (fun K hK => ?_) AllReadyH.nil
    go_simp
    refine (tried_any true (p : Int) (-1) 0 fr none 0 0 _).mono ?_
    rintro e z3 ⟨rfl, hb⟩
    go_wp2_with fail
    have hS1 := hba.trans (hb.mono hba.size)
    have hQ3 := HQ2.out.later hS1
    refine hK.out _ _ hQ3 (fun hS2 => ?_)
    clear hK K hb hS2 hS hba
    try simp only [Act.put, List.setIfInBounds_toArray, List.set_cons_zero, List.set_cons_succ]
    have HT3 := Lib.hid (HT2.out.later hS1)
    have HK3 := Lib.hid (KeepT.tra HK2.out (KeepT.ofBelow hS1))
    have H23 := Lib.hid ((hS1.block _ (lt_of_block H22.out)).trans H22.out)
    refine wpAnyH_ready (rs := [5]) (by kernel_rfl) (by simp) ?_
    refine AllReadyH.cons (o := ⟨_, _, _, _, _, _⟩) rfl (fun K hK => ?_) AllReadyH.nil
    obtain ⟨d0, d1, d2, d3, d4⟩ := five_box H23.out
    obtain ⟨g0, g1, g2, g3, g4⟩ := five_frz H23.out
    go_simp
    obtain ⟨k5, hk5⟩ := set5 H23.out (.bool true) (.int .i64 p) (.int .i64 (max (-1) fr)) (.int .i64 0) (.slice none 0 0)
    have hxw : w.heap.size ≤ X + 1 := by have := HX.out; omega
    refine hK.out _ _ (hQ3.other H23.out hk5 (by have := HVX.out; omega)) (fun hS3 => ?_)
    clear hK K hS3
    try simp only [Act.put, List.setIfInBounds_toArray, List.set_cons_zero, List.set_cons_succ]
    refine wpAnyH_done (by kernel_rfl) ?_ _
    go_wp2
    rw [← HS1.out, ← HR1.out]
    obtain ⟨q0, q1, q2, q3, q4⟩ := five_box k5
    exact bodyPost_ret (v := .agg #[.bool true, .int .i64 p, .int .i64 (max (-1) fr), .int .i64 0, .slice none 0 0]) (by simp [results, Tryz.f134, go_sem, q0, q1, q2, q3, q4]) rfl ⟨⟨_, rfl, _, rfl, TwIn.nil _⟩, HT3.out.res H23.out (Nat.le_trans H.out.base hxw) hk5, HK3.out.endAt hxw hk5⟩
  | hit h2 =>
    simp only [foIs, foEn, foFar, foRt] at hcq ⊢
    obtain ⟨e0, e1, e2, e3, e4⟩ := hcq
    have hst := HE2.out
    simp only [Option.map_some, optE] at hst
    simp only [Option.some.injEq, Prod.mk.injEq] at hst
    obtain ⟨hr1, hs1⟩ := hst
    have HR1 := Lib.hid hr1
    have HS1 := Lib.hid hs1
    clear hr1 hs1
    obtain ⟨d0, d1, d2, d3, d4⟩ := five_box H22.out
    obtain ⟨g0, g1, g2, g3, g4⟩ := five_frz H22.out
    go_wp2
    rw [← HS1.out, ← HR1.out]
    obtain ⟨k5, hk5⟩ := set5 H22.out (.bool true) (.int .i64 h2.en) (.int .i64 h2.far) (.int .i64 h2.roots) (.slice fa2 m2 fc2)
    obtain ⟨q0, q1, q2, q3, q4⟩ := five_box k5
    have hxw : w.heap.size ≤ X + 1 := by have := HX.out; omega
    exact bodyPost_ret (v := .agg #[.bool true, .int .i64 h2.en, .int .i64 h2.far, .int .i64 h2.roots, .slice fa2 m2 fc2]) (by simp [results, Tryz.f134, go_sem, q0, q1, q2, q3, q4]) rfl ⟨⟨_, rfl, _, rfl, HQ2.out.2.res H22.out hk5⟩, HT2.out.res H22.out (Nat.le_trans H.out.base hxw) hk5, HK2.out.endAt hxw hk5⟩
set_option maxRecDepth 100000 in
set_option maxHeartbeats 8000000 in
theorem way_look {C : Cx} (hC : CxOk C) {f : Nat} {x : Nd} (hx : x ∈ C.N) (hkd : 11 ≤ x.kind ∧ x.kind ≤ 12) (hM : MatchC C f) : WayC C f x := by
  intro p F st r st' w h hL hp hl he
  unfold nodeE at he
  rw [if_neg (by omega), if_neg (by omega), if_neg (by omega), if_neg (by omega), if_neg (by omega), if_neg (by omega)] at he
  rw [show wayF x.kind = 135 from by unfold wayF; rw [if_neg (by omega), if_neg (by omega), if_neg (by omega), if_neg (by omega), if_neg (by omega), if_neg (by omega), if_neg (by omega), if_neg (by omega), if_neg (by omega)]]
  have H := Lib.hid h
  have HC := Lib.hid hC
  have HL := Lib.hid hL
  have HM := Lib.hid hM
  have HE := Lib.hid he
  have hxw := hC.gr.wf x hx
  have hW := hC.hW
  have hEv := ev_ok (doc := false) hC.gv hW f
  obtain ⟨⟨ra, rc, hrv⟩, ⟨na, nc, hnv⟩, ⟨wa, wc, hwv⟩⟩ := hC.shape
  obtain ⟨ka, kc, hkv⟩ := hxw.kv
  obtain ⟨tb, htb⟩ : ∃ tb, tb = C.tb := ⟨_, rfl⟩
  have HTb := Lib.hid htb
  rw [← htb]
  obtain ⟨wl, hwl⟩ : ∃ wl, wl = C.W.length := ⟨_, rfl⟩
  have HWl := Lib.hid hwl
  rw [← hwl] at hwv hp hW
  have HWv := Lib.hid hwv
  have hne := hC.gv.one x hx (by omega)
  obtain ⟨k0, ks, hks⟩ : ∃ k0 ks, x.kids = k0 :: ks := by
    cases hq : x.kids with
    | nil => exact absurd hq hne
    | cons a b => exact ⟨a, b, rfl⟩
  obtain ⟨b, off, kN, rfl, hkk, hkN, hcell⟩ := hC.kid hx hkv 0 (by rw [hks]; simp)
  have hk0 : k0 = (kN : Int) := by rw [← hkk]; simp [hks]
  subst hk0
  rw [hks] at he
  simp only [Int.toNat_natCast] at he
  have hfew : 0 < x.kids.length := by rw [hks]; simp
  rw [Nat.add_zero] at hcell
  have HCell := Lib.hid hcell
  have HkN := Lib.hid hkN
  obtain ⟨kind, c0, c1, c2, c3, text, rule, level, kids, kv⟩ := x
  simp only at hkv hfew hkd he
  subst hkv
  unfold ndv
  simp only
  obtain ⟨kn, hkn⟩ : ∃ kn, kn = kids.length := ⟨_, rfl⟩
  have HKn := Lib.hid hkn
  rw [← hkn]
  clear hkn
  have hk0 : (0 : Int) < (kn : Int) := by rw [HKn.out]; omega
  have hk1 : 0 < kn := by omega
  have hpw : p ≤ C.W.length := by rw [← HWl.out]; exact hp
  have HPw := Lib.hid hpw
  have HEv := Lib.hid hEv
  have HE2 := Lib.hid he
  have HHC := Lib.hid hC
  clear h hL hM he hx hxw hrv hnv hwv htb hwl hEv hne hks hkk hkN hcell hfew hpw HE
  rw [if_neg (by omega), if_neg (by omega), if_neg (by omega)] at HE2
  obtain ⟨ka2, hka2⟩ : ∃ a : Bool, a = (kind == 12) := ⟨_, rfl⟩
  have HKa := Lib.hid hka2
  have HKd := Lib.hid hkd
  clear hkd hka2
  cases hE : ev false C.R C.N C.W f kN p (lvF F) st with
  | none => rw [hE] at HE2; exact absurd HE2.out (by simp)
  | some q1 =>
  obtain ⟨q, s1⟩ := q1
  rw [hE] at HE2
  have HQ := Lib.hid (HEv.out kN p (lvF F) st q s1 HPw.out HL.out.ok hE)
  have HSl := Lib.hid (ev_left f kN p (lvF F) st q s1 hE)
  go_enter Tryz.func135, Tryz.ntmps135
  go_upto_region 1 with (fail)
  refine gen_world (S := fun u => Below w.heap.size w u ∧ u.heap[w.heap.size]? = some (.cells #[.int .i64 kind, .int .u64 c0, .int .u64 c1, .int .u64 c2, .int .u64 c3, .string text, .int .i64 rule, .int .i64 level, .slice (some ⟨b, off, none⟩) kn kc] 60 (0, 0)) ∧ u.heap[w.heap.size + 1]? = some (.cells #[.bool false, .int .i64 0, .int .i64 0, .int .i64 0, .slice none 0 0] 73 (0, 0))) (two_new w _ _) (fun u hu => ?_)
  obtain ⟨hb, h1, h2⟩ := hu
  have HB := Lib.hid hb
  have H1 := Lib.hid h1
  have H2 := Lib.hid h2
  obtain ⟨X, hX⟩ : ∃ X, X = w.heap.size := ⟨_, rfl⟩
  rw [← hX] at H1 H2 ⊢
  have HX := Lib.hid hX
  have HT := Lib.hid (H.out.later hb)
  have HK := Lib.hid (KeepT.ofBelow hb : KeepT C.w0.heap.size TTm true w u)
  clear hb h1 h2 hX
  have HCall := Lib.hid (HM.out kN p F st q s1 u HT.out HL.out HPw.out HkN.out hl hE)
  rw [← HTb.out] at HCall
  obtain ⟨v0, v1, v2, v3, v4, v5, v6, v7, v8⟩ := nine_box H1.out
  have w9 := HCell.out u HT.out.bel
  clear hE
  go_wp2_with fail
  refine HCall.out.mono ?_
  rintro e z ⟨⟨v, rfl, fv2, rfl, hfv2⟩, htz, hkz⟩
  obtain ⟨fa2, fc2, rfl⟩ := hfv2.1.val
  have HFv2 := Lib.hid hfv2
  have HTz := Lib.hid htz
  have HKz := Lib.hid (KeepT.tra HK.out hkz)
  have H1z := Lib.hid (hkz.cells H1.out (by decide))
  have H2z := Lib.hid (hkz.cells H2.out (by decide))
  unfold foV foC
  obtain ⟨m2, hm2⟩ : ∃ m2, m2 = (foF q).length := ⟨_, rfl⟩
  rw [← hm2] at HFv2 ⊢
  clear hfv2 htz hkz v0 v1 v2 v3 v4 v5 v6 v7 v8 w9 hm2 HCall
  go_upto_region 2 with (fail)
  have hn2 := one_new z (.cells #[.bool (foIs q), .int .i64 (foEn q), .int .i64 (foFar q), .int .i64 (foRt q), .slice fa2 m2 fc2] 73 (0, 0))
  refine gen_world (S := fun y => Below z.heap.size z y ∧ y.heap[z.heap.size]? = some (.cells #[.bool (foIs q), .int .i64 (foEn q), .int .i64 (foFar q), .int .i64 (foRt q), .slice fa2 m2 fc2] 73 (0, 0))) hn2 (fun y2 hy2 => ?_)
  obtain ⟨hb2, hf2⟩ := hy2
  obtain ⟨V, hV⟩ : ∃ V, V = z.heap.size := ⟨_, rfl⟩
  rw [← hV] at hf2 ⊢
  have HT2 := Lib.hid (HTz.out.later hb2)
  have HK2 := Lib.hid (KeepT.tra HKz.out (KeepT.ofBelow hb2))
  have H12 := Lib.hid ((hb2.block _ (lt_of_block H1z.out)).trans H1z.out)
  have H22 := Lib.hid ((hb2.block _ (lt_of_block H2z.out)).trans H2z.out)
  have HQ2 := Lib.hid (show FoBox y2 V q (.slice fa2 m2 fc2) from ⟨hf2, HFv2.out.later hb2⟩)
  have HVX := Lib.hid (show X + 1 < V by rw [hV]; exact lt_of_block H2z.out)
  clear hn2 hb2 hf2 hV HTz HKz H1z H2z HFv2 HT HK H1 H2
  have hcq := HQ2.out.cells
  have e12 : (kind == 12) = ka2 := HKa.out.symm
  obtain ⟨v0, v1, v2, v3, v4, v5, v6, v7, v8⟩ := nine_box H12.out
  cases q with
  | miss fr =>
    simp only [foIs, foEn, foFar, foRt] at hcq ⊢
    obtain ⟨e0, e1, e2, e3, e4⟩ := hcq
    have hst := HE2.out
    simp only [Option.map_some, lookE] at hst
    cases ka2 with
    | false =>
      have hk11 : ¬ kind = 12 := by have := HKa.out; simpa using this.symm
      rw [if_neg hk11] at hst
      clear hk11
      simp only [Option.some.injEq, Prod.mk.injEq] at hst
      obtain ⟨hr1, hs1⟩ := hst
      have HR1 := Lib.hid hr1
      have HS1 := Lib.hid hs1
      clear hr1 hs1
      go_upto_region 3 with (fail)
      clear e0 e1 e2 e3 e4
      refine wp_region_held_drew (S := fun z => FoBox z V (.miss fr) (.slice fa2 m2 fc2)) (by kernel_rfl) (HQ2.out.later ((Below.refl _ _).drew)) (fun hS => ?_)
      refine wpAnyH_take (i := 0) (oi := ⟨_, _, _, _, _, _⟩) (v := ?v16) rfl (by kernel_rfl) (by kernel_rfl) (by kernel_rfl) (fun _ _ _ h => h) ?y16 hS ?_
      case y16 => first | (refine Or.inr ⟨by rfl, ?_⟩; with_reducible rfl) | (refine Or.inl ⟨by rfl, ?_⟩; intro wS hSw; have hcn := hSw.cells; simp only [foIs, foEn, foFar, foRt] at hcn; obtain ⟨e0, e1, e2, e3, e4⟩ := hcn; go_simp; try with_reducible rfl)
      simp only [Act.put, List.setIfInBounds_toArray, List.set_cons_zero, List.set_cons_succ]
      refine wpAnyH_take (i := 2) (oi := ⟨_, _, _, _, _, _⟩) (v := ?v17) rfl (by kernel_rfl) (by kernel_rfl) (by kernel_rfl) (fun _ _ _ h => h) ?y17 hS ?_
      case y17 => first | (refine Or.inr ⟨by rfl, ?_⟩; with_reducible rfl) | (refine Or.inl ⟨by rfl, ?_⟩; intro wS hSw; have hcn := hSw.cells; simp only [foIs, foEn, foFar, foRt] at hcn; obtain ⟨e0, e1, e2, e3, e4⟩ := hcn; go_simp; try with_reducible rfl)
      simp only [Act.put, List.setIfInBounds_toArray, List.set_cons_zero, List.set_cons_succ]
      refine wpAnyH_take (i := 3) (oi := ⟨_, _, _, _, _, _⟩) (v := ?v18) rfl (by kernel_rfl) (by kernel_rfl) (by kernel_rfl) (fun _ _ _ h => h) ?y18 hS ?_
      case y18 => first | (refine Or.inr ⟨by rfl, ?_⟩; with_reducible rfl) | (refine Or.inl ⟨by rfl, ?_⟩; intro wS hSw; have hcn := hSw.cells; simp only [foIs, foEn, foFar, foRt] at hcn; obtain ⟨e0, e1, e2, e3, e4⟩ := hcn; go_simp; try with_reducible rfl)
      simp only [Act.put, List.setIfInBounds_toArray, List.set_cons_zero, List.set_cons_succ]
      refine wpAnyH_ready (rs := [1]) (by kernel_rfl) (by simp) ?_
      refine AllReadyH.cons (o := ⟨_, _, _, _, _, _⟩) rfl (fun K hK => ?_) AllReadyH.nil
      go_simp
      refine (upTo_any (p : Int) _).mono ?_
      rintro e z ⟨rfl, hb⟩
      go_wp2_with fail
      refine hK.out _ _ (hS.later hb) (fun hS2 => ?_)
      have hba : Below y2.heap.size y2 z := (Below.refl y2.heap.size y2).drew.trans hb
      clear hK K hb hS2
      try simp only [Act.put, List.setIfInBounds_toArray, List.set_cons_zero, List.set_cons_succ]
      refine wpAnyH_ready (rs := [4]) (by kernel_rfl) (by simp) ?_
      refine AllReadyH.cons (o := ⟨_, _, _, _, _, _⟩) rfl (fun K hK => ?_) AllReadyH.nil
      go_simp
      refine (tried_any true (p : Int) (-1) 0 fr none 0 0 _).mono ?_
      rintro e z3 ⟨rfl, hb⟩
      go_wp2_with fail
      have hS1 := hba.trans (hb.mono hba.size)
      have hQ3 := HQ2.out.later hS1
      refine hK.out _ _ hQ3 (fun hS2 => ?_)
      clear hK K hb hS2 hS hba
      try simp only [Act.put, List.setIfInBounds_toArray, List.set_cons_zero, List.set_cons_succ]
      have HT3 := Lib.hid (HT2.out.later hS1)
      have HK3 := Lib.hid (KeepT.tra HK2.out (KeepT.ofBelow hS1))
      have H23 := Lib.hid ((hS1.block _ (lt_of_block H22.out)).trans H22.out)
      refine wpAnyH_ready (rs := [5]) (by kernel_rfl) (by simp) ?_
      refine AllReadyH.cons (o := ⟨_, _, _, _, _, _⟩) rfl (fun K hK => ?_) AllReadyH.nil
      obtain ⟨d0, d1, d2, d3, d4⟩ := five_box H23.out
      obtain ⟨g0, g1, g2, g3, g4⟩ := five_frz H23.out
      go_simp
      obtain ⟨k5, hk5⟩ := set5 H23.out (.bool true) (.int .i64 p) (.int .i64 (max (-1) fr)) (.int .i64 0) (.slice none 0 0)
      have hxw : w.heap.size ≤ X + 1 := by have := HX.out; omega
      refine hK.out _ _ (hQ3.other H23.out hk5 (by have := HVX.out; omega)) (fun hS3 => ?_)
      clear hK K hS3
      try simp only [Act.put, List.setIfInBounds_toArray, List.set_cons_zero, List.set_cons_succ]
      refine wpAnyH_done (by kernel_rfl) ?_ _
      go_wp2
      rw [← HS1.out, ← HR1.out]
      obtain ⟨q0, q1, q2, q3, q4⟩ := five_box k5
      exact bodyPost_ret (v := .agg #[.bool true, .int .i64 p, .int .i64 (max (-1) fr), .int .i64 0, .slice none 0 0]) (by simp [results, Tryz.f135, go_sem, q0, q1, q2, q3, q4]) rfl ⟨⟨_, rfl, _, rfl, TwIn.nil _⟩, HT3.out.res H23.out (Nat.le_trans H.out.base hxw) hk5, HK3.out.endAt hxw hk5⟩
    | true =>
      have hk12 : kind = 12 := by have := HKa.out; simpa using this.symm
      rw [if_pos hk12] at hst
      clear hk12
      simp only [Option.some.injEq, Prod.mk.injEq] at hst
      obtain ⟨hr1, hs1⟩ := hst
      have HR1 := Lib.hid hr1
      have HS1 := Lib.hid hs1
      clear hr1 hs1
      go_wp2_with fail
      refine (miss_any fr y2).mono ?_
      rintro e w3 ⟨rfl, hb3⟩
      have HT3 := Lib.hid (HT2.out.later hb3)
      have HK3 := Lib.hid (KeepT.tra HK2.out (KeepT.ofBelow hb3))
      have H23 := Lib.hid ((hb3.block _ (lt_of_block H22.out)).trans H22.out)
      clear hb3 e0 e1 e2 e3 e4 v0 v1 v2 v3 v4 v5 v6 v7 v8
      obtain ⟨d0, d1, d2, d3, d4⟩ := five_box H23.out
      obtain ⟨g0, g1, g2, g3, g4⟩ := five_frz H23.out
      go_wp2
      rw [← HS1.out, ← HR1.out]
      obtain ⟨k5, hk5⟩ := set5 H23.out (.bool false) (.int .i64 0) (.int .i64 fr) (.int .i64 0) (.slice none 0 0)
      obtain ⟨q0, q1, q2, q3, q4⟩ := five_box k5
      have hxw : w.heap.size ≤ X + 1 := by have := HX.out; omega
      exact bodyPost_ret (v := .agg #[.bool false, .int .i64 0, .int .i64 fr, .int .i64 0, .slice none 0 0]) (by simp [results, Tryz.f135, go_sem, q0, q1, q2, q3, q4]) rfl ⟨⟨_, rfl, _, rfl, TwIn.nil _⟩, HT3.out.res H23.out (Nat.le_trans H.out.base hxw) hk5, HK3.out.endAt hxw hk5⟩
  | hit h2 =>
    simp only [foIs, foEn, foFar, foRt] at hcq ⊢
    obtain ⟨e0, e1, e2, e3, e4⟩ := hcq
    have hst := HE2.out
    simp only [Option.map_some, lookE] at hst
    cases ka2 with
    | true =>
      have hk12 : kind = 12 := by have := HKa.out; simpa using this.symm
      rw [if_pos hk12] at hst
      clear hk12
      simp only [Option.some.injEq, Prod.mk.injEq] at hst
      obtain ⟨hr1, hs1⟩ := hst
      have HR1 := Lib.hid hr1
      have HS1 := Lib.hid hs1
      clear hr1 hs1
      go_upto_region 3 with (fail)
      clear e0 e1 e2 e3 e4
      refine wp_region_held_drew (S := fun z => FoBox z V (.hit h2) (.slice fa2 m2 fc2)) (by kernel_rfl) (HQ2.out.later ((Below.refl _ _).drew)) (fun hS => ?_)
      refine wpAnyH_take (i := 0) (oi := ⟨_, _, _, _, _, _⟩) (v := ?v19) rfl (by kernel_rfl) (by kernel_rfl) (by kernel_rfl) (fun _ _ _ h => h) ?y19 hS ?_
      case y19 => first | (refine Or.inr ⟨by rfl, ?_⟩; with_reducible rfl) | (refine Or.inl ⟨by rfl, ?_⟩; intro wS hSw; have hcn := hSw.cells; simp only [foIs, foEn, foFar, foRt] at hcn; obtain ⟨e0, e1, e2, e3, e4⟩ := hcn; go_simp; try with_reducible rfl)
      simp only [Act.put, List.setIfInBounds_toArray, List.set_cons_zero, List.set_cons_succ]
      refine wpAnyH_take (i := 2) (oi := ⟨_, _, _, _, _, _⟩) (v := ?v20) rfl (by kernel_rfl) (by kernel_rfl) (by kernel_rfl) (fun _ _ _ h => h) ?y20 hS ?_
      case y20 => first | (refine Or.inr ⟨by rfl, ?_⟩; with_reducible rfl) | (refine Or.inl ⟨by rfl, ?_⟩; intro wS hSw; have hcn := hSw.cells; simp only [foIs, foEn, foFar, foRt] at hcn; obtain ⟨e0, e1, e2, e3, e4⟩ := hcn; go_simp; try with_reducible rfl)
      simp only [Act.put, List.setIfInBounds_toArray, List.set_cons_zero, List.set_cons_succ]
      refine wpAnyH_take (i := 3) (oi := ⟨_, _, _, _, _, _⟩) (v := ?v21) rfl (by kernel_rfl) (by kernel_rfl) (by kernel_rfl) (fun _ _ _ h => h) ?y21 hS ?_
      case y21 => first | (refine Or.inr ⟨by rfl, ?_⟩; with_reducible rfl) | (refine Or.inl ⟨by rfl, ?_⟩; intro wS hSw; have hcn := hSw.cells; simp only [foIs, foEn, foFar, foRt] at hcn; obtain ⟨e0, e1, e2, e3, e4⟩ := hcn; go_simp; try with_reducible rfl)
      simp only [Act.put, List.setIfInBounds_toArray, List.set_cons_zero, List.set_cons_succ]
      refine wpAnyH_ready (rs := [1]) (by kernel_rfl) (by simp) ?_
      refine AllReadyH.cons (o := ⟨_, _, _, _, _, _⟩) rfl (fun K hK => ?_) AllReadyH.nil
      go_simp
      refine (upTo_any (p : Int) _).mono ?_
      rintro e z ⟨rfl, hb⟩
      go_wp2_with fail
      refine hK.out _ _ (hS.later hb) (fun hS2 => ?_)
      have hba : Below y2.heap.size y2 z := (Below.refl y2.heap.size y2).drew.trans hb
      clear hK K hb hS2
      try simp only [Act.put, List.setIfInBounds_toArray, List.set_cons_zero, List.set_cons_succ]
      refine wpAnyH_ready (rs := [4]) (by kernel_rfl) (by simp) ?_
      refine AllReadyH.cons (o := ⟨_, _, _, _, _, _⟩) rfl (fun K hK => ?_) AllReadyH.nil
      go_simp
      refine (tried_any true (p : Int) (-1) 0 h2.far none 0 0 _).mono ?_
      rintro e z3 ⟨rfl, hb⟩
      go_wp2_with fail
      have hS1 := hba.trans (hb.mono hba.size)
      have hQ3 := HQ2.out.later hS1
      refine hK.out _ _ hQ3 (fun hS2 => ?_)
      clear hK K hb hS2 hS hba
      try simp only [Act.put, List.setIfInBounds_toArray, List.set_cons_zero, List.set_cons_succ]
      have HT3 := Lib.hid (HT2.out.later hS1)
      have HK3 := Lib.hid (KeepT.tra HK2.out (KeepT.ofBelow hS1))
      have H23 := Lib.hid ((hS1.block _ (lt_of_block H22.out)).trans H22.out)
      refine wpAnyH_ready (rs := [5]) (by kernel_rfl) (by simp) ?_
      refine AllReadyH.cons (o := ⟨_, _, _, _, _, _⟩) rfl (fun K hK => ?_) AllReadyH.nil
      obtain ⟨d0, d1, d2, d3, d4⟩ := five_box H23.out
      obtain ⟨g0, g1, g2, g3, g4⟩ := five_frz H23.out
      go_simp
      obtain ⟨k5, hk5⟩ := set5 H23.out (.bool true) (.int .i64 p) (.int .i64 (max (-1) h2.far)) (.int .i64 0) (.slice none 0 0)
      have hxw : w.heap.size ≤ X + 1 := by have := HX.out; omega
      refine hK.out _ _ (hQ3.other H23.out hk5 (by have := HVX.out; omega)) (fun hS3 => ?_)
      clear hK K hS3
      try simp only [Act.put, List.setIfInBounds_toArray, List.set_cons_zero, List.set_cons_succ]
      refine wpAnyH_done (by kernel_rfl) ?_ _
      go_wp2
      rw [← HS1.out, ← HR1.out]
      obtain ⟨q0, q1, q2, q3, q4⟩ := five_box k5
      exact bodyPost_ret (v := .agg #[.bool true, .int .i64 p, .int .i64 (max (-1) h2.far), .int .i64 0, .slice none 0 0]) (by simp [results, Tryz.f135, go_sem, q0, q1, q2, q3, q4]) rfl ⟨⟨_, rfl, _, rfl, TwIn.nil _⟩, HT3.out.res H23.out (Nat.le_trans H.out.base hxw) hk5, HK3.out.endAt hxw hk5⟩
    | false =>
      have hk11 : ¬ kind = 12 := by have := HKa.out; simpa using this.symm
      rw [if_neg hk11] at hst
      clear hk11
      simp only [Option.some.injEq, Prod.mk.injEq] at hst
      obtain ⟨hr1, hs1⟩ := hst
      have HR1 := Lib.hid hr1
      have HS1 := Lib.hid hs1
      clear hr1 hs1
      go_wp2_with fail
      refine (miss_any h2.far y2).mono ?_
      rintro e w3 ⟨rfl, hb3⟩
      have HT3 := Lib.hid (HT2.out.later hb3)
      have HK3 := Lib.hid (KeepT.tra HK2.out (KeepT.ofBelow hb3))
      have H23 := Lib.hid ((hb3.block _ (lt_of_block H22.out)).trans H22.out)
      clear hb3 e0 e1 e2 e3 e4 v0 v1 v2 v3 v4 v5 v6 v7 v8
      obtain ⟨d0, d1, d2, d3, d4⟩ := five_box H23.out
      obtain ⟨g0, g1, g2, g3, g4⟩ := five_frz H23.out
      go_wp2
      rw [← HS1.out, ← HR1.out]
      obtain ⟨k5, hk5⟩ := set5 H23.out (.bool false) (.int .i64 0) (.int .i64 h2.far) (.int .i64 0) (.slice none 0 0)
      obtain ⟨q0, q1, q2, q3, q4⟩ := five_box k5
      have hxw : w.heap.size ≤ X + 1 := by have := HX.out; omega
      exact bodyPost_ret (v := .agg #[.bool false, .int .i64 0, .int .i64 h2.far, .int .i64 0, .slice none 0 0]) (by simp [results, Tryz.f135, go_sem, q0, q1, q2, q3, q4]) rfl ⟨⟨_, rfl, _, rfl, TwIn.nil _⟩, HT3.out.res H23.out (Nat.le_trans H.out.base hxw) hk5, HK3.out.endAt hxw hk5⟩
end Go.Proofs.YtkimkghldilliaaGreat
