/-
  mean: kids one behind the other, the first of kids.
-/
import Derived.Test.YtkimkghldilliaaGreatMnE
namespace Go.Proofs.YtkimkghldilliaaGreat
open Go.RowKit Go.Lib

theorem CxOk.kid {C : Cx} (hC : CxOk C) {x : Nd} (hx : x ∈ C.N) {ka : Option Addr} {kn kc : Nat} (hkv : x.kv = .slice ka kn kc) (j : Nat) (hj : j < x.kids.length) : ∃ b off kN, ka = some ⟨b, off, none⟩ ∧ x.kids[j] = ((kN : Nat) : Int) ∧ kN < C.N.length ∧ ∀ z, Below C.w0.heap.size C.w0 z → z.cell? ⟨b, off + j, none⟩ = some (.int .i64 (kN : Int)) := by
  obtain ⟨ao, b, off, cap, he, -, -, -, hao, -, hc⟩ := hC.gr.kids x hx
  rw [hkv] at he
  simp only [Value.slice.injEq] at he
  obtain ⟨rfl, -, -⟩ := he
  obtain ⟨h1, h2⟩ := hC.gv.kids x hx x.kids[j] (List.getElem_mem hj)
  have hc := hc j (by simpa using hj)
  simp only [List.getElem_map] at hc
  refine ⟨b, off, x.kids[j].toNat, hao (by simp; omega), (Int.toNat_of_nonneg h1).symm, h2, fun z hz => ?_⟩
  rw [Int.toNat_of_nonneg h1]
  exact cell_later hz hc
theorem TrS.setRes {C : Cx} {F : Live} {st : Ss} {w z : World} (h : TrS C F st w) {b : Nat} {cs : Array Value} (hb : w.heap[b]? = some (.cells cs 73 (0, 0))) (hB : C.w0.heap.size ≤ b) (hk : Keeps (· = b) w z) : TrS C F st z := h.res hb hB hk
/-- a box of what was found. -/
def FoBox (z : World) (b : Nat) (r : Fo) (fv : Value) : Prop := z.heap[b]? = some (.cells (foC r fv) 73 (0, 0)) ∧ TwIn z fv (foF r)
theorem FoBox.later {z z' : World} {b : Nat} {r : Fo} {fv : Value} (h : FoBox z b r fv) (hb : Below z.heap.size z z') : FoBox z' b r fv := ⟨(hb.block _ (lt_of_block h.1)).trans h.1, h.2.later hb⟩
theorem FoBox.keepT {B : Nat} {z z' : World} {b : Nat} {r : Fo} {fv : Value} (h : FoBox z b r fv) (hk : KeepT B TTm true z z') : FoBox z' b r fv := ⟨hk.cells h.1 (by decide), h.2.keepT hk (by decide)⟩
theorem FoBox.cells {z : World} {b : Nat} {r : Fo} {fv : Value} (h : FoBox z b r fv) : z.cell? ⟨b, 0, none⟩ = some (.bool (foIs r)) ∧ z.cell? ⟨b, 1, none⟩ = some (.int .i64 (foEn r)) ∧ z.cell? ⟨b, 2, none⟩ = some (.int .i64 (foFar r)) ∧ z.cell? ⟨b, 3, none⟩ = some (.int .i64 (foRt r)) ∧ z.cell? ⟨b, 4, none⟩ = some fv := five_box h.1
theorem TwIn.res {z z' : World} {b : Nat} {cs : Array Value} {v : Value} {l : List Tw} (h : TwIn z v l) (hb : z.heap[b]? = some (.cells cs 73 (0, 0))) (hk : Keeps (· = b) z z') : TwIn z' v l := h.keepT (one_keep (mp := false) hk hb (Nat.zero_le _) (List.mem_singleton.2 rfl) (by simp)) (by simp)
theorem FoBox.other {z z' : World} {b c : Nat} {cs : Array Value} {r : Fo} {fv : Value} (h : FoBox z b r fv) (hc : z.heap[c]? = some (.cells cs 73 (0, 0))) (hk : Keeps (· = c) z z') (hne : b ≠ c) : FoBox z' b r fv := ⟨hk.obj h.1 hne, h.2.res hc hk⟩
set_option maxRecDepth 100000 in
set_option maxHeartbeats 8000000 in
theorem way_seq {C : Cx} (hC : CxOk C) {f : Nat} {x : Nd} (hx : x ∈ C.N) (hkd : x.kind = 6) (hM : MatchC C f) : WayC C f x := by
  intro p F st r st' w h hL hp hl he
  unfold nodeE at he
  rw [if_neg (by rw [hkd]; decide), if_neg (by rw [hkd]; decide), if_neg (by rw [hkd]; decide), if_neg (by rw [hkd]; decide), if_pos hkd] at he
  rw [show wayF x.kind = 130 from by unfold wayF; rw [hkd]; rfl]
  have H := Lib.hid h
  have HC := Lib.hid hC
  have HL := Lib.hid hL
  have HM := Lib.hid hM
  have HE := Lib.hid he
  have hxw := hC.gr.wf x hx
  have hW := hC.hW
  have hEv := ev_ok (doc := false) hC.gv hW f
  obtain ⟨⟨ra, rc, hrv⟩, ⟨na, nc, hnv⟩, ⟨wa, wc, hwv⟩⟩ := hC.shape
  obtain ⟨ka, kc, hkv⟩ := hxw.kv
  obtain ⟨tb, htb⟩ : ∃ tb, tb = C.tb := ⟨_, rfl⟩
  have HTb := Lib.hid htb
  rw [← htb]
  obtain ⟨wl, hwl⟩ : ∃ wl, wl = C.W.length := ⟨_, rfl⟩
  have HWl := Lib.hid hwl
  rw [← hwl] at hwv hp hW
  have HWv := Lib.hid hwv
  have hfew := hxw.few
  have HKid := Lib.hid (fun j (hj : j < x.kids.length) => hC.kid hx hkv j hj)
  obtain ⟨kind, c0, c1, c2, c3, text, rule, level, kids, kv⟩ := x
  simp only at hkv HKid HE hkd hfew
  subst hkv
  unfold ndv
  simp only
  obtain ⟨kn, hkn⟩ : ∃ kn, kn = kids.length := ⟨_, rfl⟩
  have HKn := Lib.hid hkn
  rw [← hkn]
  clear hkn
  have hkm : kn ≤ 9223372036854775807 := by rw [HKn.out]; exact hfew
  have HEv := Lib.hid hEv
  clear h hC hL hM he hx hxw hrv hnv hwv htb hwl hEv hkd
  go_enter Tryz.func130, Tryz.ntmps130
  go_upto_region 1 with (fail)
  refine gen_world (S := fun u => Below w.heap.size w u ∧ u.heap[w.heap.size]? = some (.cells #[.int .i64 kind, .int .u64 c0, .int .u64 c1, .int .u64 c2, .int .u64 c3, .string text, .int .i64 rule, .int .i64 level, .slice ka kn kc] 60 (0, 0)) ∧ u.heap[w.heap.size + 1]? = some (.cells #[.bool false, .int .i64 0, .int .i64 0, .int .i64 0, .slice none 0 0] 73 (0, 0))) (two_new w _ _) (fun u hu => ?_)
  obtain ⟨hb, h1, h2⟩ := hu
  have HB := Lib.hid hb
  have H1 := Lib.hid h1
  have H2 := Lib.hid h2
  obtain ⟨X, hX⟩ : ∃ X, X = w.heap.size := ⟨_, rfl⟩
  rw [← hX] at H1 H2 ⊢
  have HX := Lib.hid hX
  have HT := Lib.hid (H.out.later hb)
  have HK := Lib.hid (KeepT.ofBelow hb : KeepT C.w0.heap.size TTm true w u)
  clear hb h1 h2 hX
  go_wp2_with fail
  refine (upTo_any (p : Int) u).mono ?_
  rintro e w1 ⟨rfl, hb1⟩
  have HT1 := Lib.hid (HT.out.later hb1)
  have HK1 := Lib.hid (KeepT.tra HK.out (KeepT.ofBelow hb1))
  have H11 := Lib.hid ((hb1.block _ (lt_of_block H1.out)).trans H1.out)
  have H21 := Lib.hid ((hb1.block _ (lt_of_block H2.out)).trans H2.out)
  clear hb1 HT HK H1 H2
  go_upto_region 2 with (fail)
  have hn := one_new w1 (.cells #[.bool true, .int .i64 p, .int .i64 (-1), .int .i64 0, .slice none 0 0] 73 (0, 0))
  refine gen_world (S := fun y => Below w1.heap.size w1 y ∧ y.heap[w1.heap.size]? = some (.cells #[.bool true, .int .i64 p, .int .i64 (-1), .int .i64 0, .slice none 0 0] 73 (0, 0))) hn (fun y hy => ?_)
  obtain ⟨hby, hfy⟩ := hy
  obtain ⟨Z, hZ⟩ : ∃ Z, Z = w1.heap.size := ⟨_, rfl⟩
  rw [← hZ] at hfy ⊢
  have HXZ := Lib.hid (show X + 1 < Z by rw [hZ]; exact lt_of_block H21.out)
  have HTy := Lib.hid (HT1.out.later hby)
  have HKy := Lib.hid (KeepT.tra HK1.out (KeepT.ofBelow hby))
  have H1y := Lib.hid ((hby.block _ (lt_of_block H11.out)).trans H11.out)
  have H2y := Lib.hid ((hby.block _ (lt_of_block H21.out)).trans H21.out)
  have HFy := Lib.hid (show FoBox y Z (.hit (upTo p)) (.slice none 0 0) from ⟨hfy, TwIn.nil _⟩)
  have HUp := Lib.hid (upTo_ok C.W (Nat.le_refl p) (by rw [← HWl.out]; exact hp))
  clear hn hby hfy hZ HT1 HK1 H11 H21
  obtain ⟨v0, v1, v2, v3, v4, v5, v6, v7, v8⟩ := nine_box H1y.out
  go_upto_region 3 with (fail)
  clear v0 v1 v2 v3 v4 v5 v6 v7 v8
  go_loopw [16] (fun i wr => ∃ (j : Nat) (g : Ht) (fv : Value) (s : Ss), j ≤ kn ∧ i = .int .i64 j ∧ Hid (HtOk C.W p g) ∧ Hid (s.left ≤ f ∧ seqE (ev false C.R C.N C.W f) (lvF F) (kids.drop j) g s = some (r, st')) ∧ Hid (FoBox wr Z (.hit g) fv) ∧ Hid (TrS C F s wr) ∧ Hid (KeepT C.w0.heap.size TTm true w wr) ∧ Hid (wr.heap[X + 1]? = some (.cells #[.bool false, .int .i64 0, .int .i64 0, .int .i64 0, .slice none 0 0] 73 (0, 0)))) (fun i _ => kn - (intOf i).toNat)
  case atStart => exact ⟨0, upTo p, .slice none 0 0, st, Nat.zero_le _, rfl, HUp, Lib.hid ⟨hl, by simpa using HE.out⟩, HFy, HTy, HKy, H2y⟩
  case round =>
    obtain ⟨j, g, fv, s, hj, rfl, HG, HS, HF, HTr, HKr, H2r⟩ := hrel
    obtain ⟨ga, gc, hgv⟩ := HF.out.2.1.val
    subst hgv
    obtain ⟨m, hm⟩ : ∃ m, m = (foF (.hit g)).length := ⟨_, rfl⟩
    rw [← hm] at HF
    have HM1 := Lib.hid hm
    clear hm
    by_cases hlt : j < kn
    case neg =>
      obtain rfl : j = kn := by omega
      have hlt2 : ¬ (j : Int) < (j : Int) := by omega
      have hend := HS.out.2
      rw [List.drop_of_length_le (by rw [HKn.out]; exact Nat.le_refl _), seqE] at hend
      simp only [Option.some.injEq, Prod.mk.injEq] at hend
      obtain ⟨hr, hs⟩ := hend
      have HR1 := Lib.hid hr
      have HS1 := Lib.hid hs
      obtain ⟨c0, c1, c2, c3, c4⟩ := HF.out.cells
      clear hr hs
      obtain ⟨d0, d1, d2, d3, d4⟩ := five_box H2r.out
      obtain ⟨g0, g1, g2, g3, g4⟩ := five_frz H2r.out
      go_wp2
      rw [← HS1.out, ← HR1.out]
      obtain ⟨k5, hk5⟩ := set5 H2r.out (.bool (foIs (.hit g))) (.int .i64 (foEn (.hit g))) (.int .i64 (foFar (.hit g))) (.int .i64 (foRt (.hit g))) (.slice ga m gc)
      obtain ⟨q0, q1, q2, q3, q4⟩ := five_box k5
      have hxw : w.heap.size ≤ X + 1 := by have := HX.out; omega
      exact bodyPost_ret (v := .agg #[.bool (foIs (.hit g)), .int .i64 (foEn (.hit g)), .int .i64 (foFar (.hit g)), .int .i64 (foRt (.hit g)), .slice ga m gc]) (by simp [results, Tryz.f130, go_sem, q0, q1, q2, q3, q4]) rfl ⟨⟨_, rfl, _, rfl, HF.out.2.res H2r.out hk5⟩, HTr.out.res H2r.out (Nat.le_trans H.out.base hxw) hk5, HKr.out.endAt hxw hk5⟩
    case pos =>
      have hlt2 : (j : Int) < (kn : Int) := by omega
      have hjk : j < kids.length := by rw [← HKn.out]; exact hlt
      obtain ⟨b, off, kN, rfl, hkk, hkN, hcell⟩ := HKid.out j hjk
      have w9 := hcell wr HTr.out.bel
      have hs := HS.out.2
      rw [List.drop_eq_getElem_cons hjk, hkk, seqE, Int.toNat_natCast] at hs
      cases hE : ev false C.R C.N C.W f kN g.en (lvF F) s with
      | none => rw [hE] at hs; cases hs
      | some q1 =>
      obtain ⟨q, s1⟩ := q1
      rw [hE] at hs
      have HQ := Lib.hid (HEv.out kN g.en (lvF F) s q s1 HG.out.2.1 HL.out.ok hE)
      have HSl := Lib.hid (ev_left f kN g.en (lvF F) s q s1 hE)
      have HCall := Lib.hid (HM.out kN g.en F s q s1 wr HTr.out HL.out HG.out.2.1 hkN HS.out.1 hE)
      rw [← HTb.out] at HCall
      have HSt := Lib.hid hs
      have hcn := HF.out.cells
      simp only [foIs, foEn, foFar, foRt] at hcn
      obtain ⟨c0, c1, c2, c3, c4⟩ := hcn
      clear hkk hkN hcell hs hE
      go_wp2_with fail
      refine HCall.out.mono ?_
      rintro e z ⟨⟨v, rfl, fv2, rfl, hfv2⟩, htz, hkz⟩
      obtain ⟨fa2, fc2, rfl⟩ := hfv2.1.val
      have HFv2 := Lib.hid hfv2
      have HTz := Lib.hid htz
      have HKz := Lib.hid (KeepT.tra HKr.out hkz)
      have HFz := Lib.hid (HF.out.keepT hkz)
      have H2z := Lib.hid (hkz.cells H2r.out (by decide))
      unfold foV foC
      obtain ⟨m2, hm2⟩ : ∃ m2, m2 = (foF q).length := ⟨_, rfl⟩
      rw [← hm2] at HFv2 ⊢
      clear hfv2 htz hkz c0 c1 c2 c3 c4 w9 hm2 HCall
      go_upto_region 6 with (fail)
      have hn2 := one_new z (.cells #[.bool (foIs q), .int .i64 (foEn q), .int .i64 (foFar q), .int .i64 (foRt q), .slice fa2 m2 fc2] 73 (0, 0))
      refine gen_world (S := fun y => Below z.heap.size z y ∧ y.heap[z.heap.size]? = some (.cells #[.bool (foIs q), .int .i64 (foEn q), .int .i64 (foFar q), .int .i64 (foRt q), .slice fa2 m2 fc2] 73 (0, 0))) hn2 (fun y2 hy2 => ?_)
      obtain ⟨hb2, hf2⟩ := hy2
      obtain ⟨V, hV⟩ : ∃ V, V = z.heap.size := ⟨_, rfl⟩
      rw [← hV] at hf2 ⊢
      have HT2 := Lib.hid (HTz.out.later hb2)
      have HK2 := Lib.hid (KeepT.tra HKz.out (KeepT.ofBelow hb2))
      have HF2 := Lib.hid (HFz.out.later hb2)
      have H22 := Lib.hid ((hb2.block _ (lt_of_block H2z.out)).trans H2z.out)
      have HQ2 := Lib.hid (show FoBox y2 V q (.slice fa2 m2 fc2) from ⟨hf2, HFv2.out.later hb2⟩)
      have HVZ := Lib.hid (show Z < V by rw [hV]; exact lt_of_block HFz.out.1)
      clear hn2 hb2 hf2 hV HTz HKz HFz H2z HFv2 HF HTr HKr H2r
      have hcn := HF2.out.cells
      have hcq := HQ2.out.cells
      cases q with
      | miss fr =>
        simp only [foIs, foEn, foFar, foRt] at hcn hcq ⊢
        obtain ⟨c0, c1, c2, c3, c4⟩ := hcn
        obtain ⟨e0, e1, e2, e3, e4⟩ := hcq
        have hst := HSt.out
        simp only [Option.some.injEq, Prod.mk.injEq] at hst
        obtain ⟨hr1, hs1⟩ := hst
        have HR1 := Lib.hid hr1
        have HS1 := Lib.hid hs1
        clear hr1 hs1
        go_wp2_with fail
        refine (tried_any false 0 fr 0 g.far fa2 m2 fc2 y2).mono ?_
        rintro e w3 ⟨rfl, hb3⟩
        have HT3 := Lib.hid (HT2.out.later hb3)
        have HK3 := Lib.hid (KeepT.tra HK2.out (KeepT.ofBelow hb3))
        have H23 := Lib.hid ((hb3.block _ (lt_of_block H22.out)).trans H22.out)
        have HW3 := Lib.hid (HQ2.out.2.later hb3)
        clear hb3 c0 c1 c2 c3 c4 e0 e1 e2 e3 e4
        obtain ⟨d0, d1, d2, d3, d4⟩ := five_box H23.out
        obtain ⟨g0, g1, g2, g3, g4⟩ := five_frz H23.out
        go_wp2
        rw [← HS1.out, ← HR1.out]
        obtain ⟨k5, hk5⟩ := set5 H23.out (.bool false) (.int .i64 0) (.int .i64 (max fr g.far)) (.int .i64 0) (.slice fa2 m2 fc2)
        obtain ⟨q0, q1, q2, q3, q4⟩ := five_box k5
        have hxw : w.heap.size ≤ X + 1 := by have := HX.out; omega
        exact bodyPost_ret (v := .agg #[.bool false, .int .i64 0, .int .i64 (max fr g.far), .int .i64 0, .slice fa2 m2 fc2]) (by simp [results, Tryz.f130, go_sem, q0, q1, q2, q3, q4]) rfl ⟨⟨_, rfl, _, rfl, HW3.out.res H23.out hk5⟩, HT3.out.res H23.out (Nat.le_trans H.out.base hxw) hk5, HK3.out.endAt hxw hk5⟩
      | hit h2 =>
        simp only [foIs, foEn, foFar, foRt] at hcn hcq ⊢
        obtain ⟨c0, c1, c2, c3, c4⟩ := hcn
        obtain ⟨e0, e1, e2, e3, e4⟩ := hcq
        have hst := HSt.out
        simp only at hst
        cases hth : g.then h2 with
        | none => rw [hth] at hst; cases hst
        | some g' =>
        rw [hth] at hst
        have HSt2 := Lib.hid hst
        have HG2 := Lib.hid (then_ok HG.out HQ.out hth)
        have HTh := Lib.hid hth
        have hq1 := HG.out.2.2.2.2
        have hq2 := HQ.out.2.2.2.2
        unfold lim at hq1 hq2
        have HThen := Lib.hid (then_any true g.en g.far g.roots h2.en h2.far h2.roots _ _ g.forest h2.forest y2 HF2.out.2 HQ2.out.2 (by have := hth; unfold Ht.then at this; split at this; assumption; cases this) ⟨by omega, by omega, by omega, by omega⟩)
        clear hst hth hq1 hq2
        go_wp2_with fail
        refine HThen.out.mono ?_
        rintro e w3 ⟨⟨fv3, rfl, hfv3⟩, hb3⟩
        obtain ⟨fa3, fc3, rfl⟩ := hfv3.1.val
        have HT3 := Lib.hid (HT2.out.later hb3)
        have HK3 := Lib.hid (KeepT.tra HK2.out (KeepT.ofBelow hb3))
        have H23 := Lib.hid ((hb3.block _ (lt_of_block H22.out)).trans H22.out)
        have HF3 := Lib.hid (HF2.out.later hb3)
        have HW3 := Lib.hid hfv3
        obtain ⟨m3, hm3⟩ : ∃ m3, m3 = (g.forest ++ h2.forest).length := ⟨_, rfl⟩
        rw [← hm3] at HW3 ⊢
        clear hb3 c0 c1 c2 c3 c4 e0 e1 e2 e3 e4 hfv3 hm3 HThen
        have hcn := HF3.out.cells
        simp only [foIs, foEn, foFar, foRt] at hcn
        obtain ⟨c0, c1, c2, c3, c4⟩ := hcn
        obtain ⟨g0, g1, g2, g3, g4⟩ := five_frz HF3.out.1
        go_wp2
        have hbox := HF3.out.1
        unfold foC at hbox
        obtain ⟨k5, hk5⟩ := set5 hbox (.bool true) (.int .i64 h2.en) (.int .i64 (max g.far h2.far)) (.int .i64 ((g.roots : Int) + (h2.roots : Int))) (.slice fa3 m3 fc3)
        have hg' : g' = ⟨h2.en, max g.far h2.far, g.roots + h2.roots, g.forest ++ h2.forest⟩ := by
          have := HTh.out
          unfold Ht.then at this
          split at this
          · exact (Option.some.inj this).symm
          · cases this
        have hzB : C.w0.heap.size ≤ Z := by have := H.out.base; have := HX.out; have := HXZ.out; omega
        have hzw : w.heap.size ≤ Z := by have := HX.out; have := HXZ.out; omega
        have HR := Lib.hid (show FoBox _ Z (.hit g') (.slice fa3 m3 fc3) from ⟨by rw [hg']; exact k5, by rw [hg']; exact HW3.out.res hbox hk5⟩)
        have HT4 := Lib.hid (HT3.out.res hbox hzB hk5)
        have HK4 := Lib.hid (HK3.out.endAt hzw hk5)
        have H24 := Lib.hid (hk5.obj H23.out (by have := HXZ.out; omega))
        clear hbox k5 hk5 hg' hzB hzw g0 g1 g2 g3 g4 c0 c1 c2 c3 c4
        go_roundw
        case rel => exact ⟨j + 1, g', _, s1, by omega, by go_num, HG2, Lib.hid ⟨Nat.le_trans HSl.out.1 HS.out.1, HSt2.out⟩, HR, HT4, HK4, H24⟩
        case measure => simp [intOf]; omega
set_option maxRecDepth 100000 in
set_option maxHeartbeats 8000000 in
theorem way_alt {C : Cx} (hC : CxOk C) {f : Nat} {x : Nd} (hx : x ∈ C.N) (hkd : x.kind = 7) (hM : MatchC C f) : WayC C f x := by
  intro p F st r st' w h hL hp hl he
  unfold nodeE at he
  rw [if_neg (by rw [hkd]; decide), if_neg (by rw [hkd]; decide), if_neg (by rw [hkd]; decide), if_neg (by rw [hkd]; decide), if_neg (by rw [hkd]; decide), if_pos hkd] at he
  rw [show wayF x.kind = 131 from by unfold wayF; rw [hkd]; rfl]
  have H := Lib.hid h
  have HC := Lib.hid hC
  have HL := Lib.hid hL
  have HM := Lib.hid hM
  have HE := Lib.hid he
  have hxw := hC.gr.wf x hx
  have hW := hC.hW
  have hEv := ev_ok (doc := false) hC.gv hW f
  obtain ⟨⟨ra, rc, hrv⟩, ⟨na, nc, hnv⟩, ⟨wa, wc, hwv⟩⟩ := hC.shape
  obtain ⟨ka, kc, hkv⟩ := hxw.kv
  obtain ⟨tb, htb⟩ : ∃ tb, tb = C.tb := ⟨_, rfl⟩
  have HTb := Lib.hid htb
  rw [← htb]
  obtain ⟨wl, hwl⟩ : ∃ wl, wl = C.W.length := ⟨_, rfl⟩
  have HWl := Lib.hid hwl
  rw [← hwl] at hwv hp hW
  have HWv := Lib.hid hwv
  have hfew := hxw.few
  have HKid := Lib.hid (fun j (hj : j < x.kids.length) => hC.kid hx hkv j hj)
  obtain ⟨kind, c0, c1, c2, c3, text, rule, level, kids, kv⟩ := x
  simp only at hkv HKid HE hkd hfew
  subst hkv
  unfold ndv
  simp only
  obtain ⟨kn, hkn⟩ : ∃ kn, kn = kids.length := ⟨_, rfl⟩
  have HKn := Lib.hid hkn
  rw [← hkn]
  clear hkn
  have hkm : kn ≤ 9223372036854775807 := by rw [HKn.out]; exact hfew
  have HEv := Lib.hid hEv
  clear h hC hL hM he hx hxw hrv hnv hwv htb hwl hEv hkd
  go_enter Tryz.func131, Tryz.ntmps131
  go_upto_region 1 with (fail)
  refine gen_world (S := fun u => Below w.heap.size w u ∧ u.heap[w.heap.size]? = some (.cells #[.int .i64 kind, .int .u64 c0, .int .u64 c1, .int .u64 c2, .int .u64 c3, .string text, .int .i64 rule, .int .i64 level, .slice ka kn kc] 60 (0, 0)) ∧ u.heap[w.heap.size + 1]? = some (.cells #[.bool false, .int .i64 0, .int .i64 0, .int .i64 0, .slice none 0 0] 73 (0, 0))) (two_new w _ _) (fun u hu => ?_)
  obtain ⟨hb, h1, h2⟩ := hu
  have HB := Lib.hid hb
  have H1 := Lib.hid h1
  have H2 := Lib.hid h2
  obtain ⟨X, hX⟩ : ∃ X, X = w.heap.size := ⟨_, rfl⟩
  rw [← hX] at H1 H2 ⊢
  have HX := Lib.hid hX
  have HT := Lib.hid (H.out.later hb)
  have HK := Lib.hid (KeepT.ofBelow hb : KeepT C.w0.heap.size TTm true w u)
  clear hb h1 h2 hX
  obtain ⟨v0, v1, v2, v3, v4, v5, v6, v7, v8⟩ := nine_box H1.out
  go_upto_region 3 with (fail)
  clear v0 v1 v2 v3 v4 v5 v6 v7 v8
  go_loopw [7, 14] (fun fa i wr => ∃ (j : Nat) (far : Int) (s : Ss), j ≤ kn ∧ fa = .int .i64 far ∧ i = .int .i64 j ∧ Hid (-1 ≤ far ∧ far ≤ C.W.length) ∧ Hid (s.left ≤ f ∧ altE (ev false C.R C.N C.W f) (lvF F) p (kids.drop j) far s = some (r, st')) ∧ Hid (TrS C F s wr) ∧ Hid (KeepT C.w0.heap.size TTm true w wr) ∧ Hid (wr.heap[X + 1]? = some (.cells #[.bool false, .int .i64 0, .int .i64 0, .int .i64 0, .slice none 0 0] 73 (0, 0)))) (fun _ i _ => kn - (intOf i).toNat)
  case atStart => exact ⟨0, -1, st, Nat.zero_le _, rfl, rfl, Lib.hid ⟨Int.le_refl _, by omega⟩, Lib.hid ⟨hl, by simpa using HE.out⟩, HT, HK, H2⟩
  case round =>
    obtain ⟨j, far, s, hj, rfl, rfl, HG, HS, HTr, HKr, H2r⟩ := hrel
    by_cases hlt : j < kn
    case neg =>
      obtain rfl : j = kn := by omega
      have hlt2 : ¬ (j : Int) < (j : Int) := by omega
      have hend := HS.out.2
      rw [List.drop_of_length_le (by rw [HKn.out]; exact Nat.le_refl _), altE] at hend
      simp only [Option.some.injEq, Prod.mk.injEq] at hend
      obtain ⟨hr, hs⟩ := hend
      have HR1 := Lib.hid hr
      have HS1 := Lib.hid hs
      clear hr hs
      go_wp2_with fail
      refine (miss_any far wr).mono ?_
      rintro e w1 ⟨rfl, hb1⟩
      have HT1 := Lib.hid (HTr.out.later hb1)
      have HK1 := Lib.hid (KeepT.tra HKr.out (KeepT.ofBelow hb1))
      have H21 := Lib.hid ((hb1.block _ (lt_of_block H2r.out)).trans H2r.out)
      clear hb1
      obtain ⟨d0, d1, d2, d3, d4⟩ := five_box H21.out
      obtain ⟨g0, g1, g2, g3, g4⟩ := five_frz H21.out
      go_wp2
      rw [← HS1.out, ← HR1.out]
      obtain ⟨k5, hk5⟩ := set5 H21.out (.bool false) (.int .i64 0) (.int .i64 far) (.int .i64 0) (.slice none 0 0)
      obtain ⟨q0, q1, q2, q3, q4⟩ := five_box k5
      have hxw : w.heap.size ≤ X + 1 := by have := HX.out; omega
      exact bodyPost_ret (v := .agg #[.bool false, .int .i64 0, .int .i64 far, .int .i64 0, .slice none 0 0]) (by simp [results, Tryz.f131, go_sem, q0, q1, q2, q3, q4]) rfl ⟨⟨_, rfl, _, rfl, TwIn.nil _⟩, HT1.out.res H21.out (Nat.le_trans H.out.base hxw) hk5, HK1.out.endAt hxw hk5⟩
    case pos =>
      have hlt2 : (j : Int) < (kn : Int) := by omega
      have hjk : j < kids.length := by rw [← HKn.out]; exact hlt
      obtain ⟨b, off, kN, rfl, hkk, hkN, hcell⟩ := HKid.out j hjk
      have w9 := hcell wr HTr.out.bel
      have hs := HS.out.2
      rw [List.drop_eq_getElem_cons hjk, hkk, altE, Int.toNat_natCast] at hs
      cases hE : ev false C.R C.N C.W f kN p (lvF F) s with
      | none => rw [hE] at hs; cases hs
      | some q1 =>
      obtain ⟨q, s1⟩ := q1
      rw [hE] at hs
      have hpw : p ≤ C.W.length := by rw [← HWl.out]; exact hp
      have HQ := Lib.hid (HEv.out kN p (lvF F) s q s1 hpw HL.out.ok hE)
      have HSl := Lib.hid (ev_left f kN p (lvF F) s q s1 hE)
      have HCall := Lib.hid (HM.out kN p F s q s1 wr HTr.out HL.out hpw hkN HS.out.1 hE)
      rw [← HTb.out] at HCall
      have HSt := Lib.hid hs
      clear hkk hkN hcell hs hE
      go_wp2_with fail
      refine HCall.out.mono ?_
      rintro e z ⟨⟨v, rfl, fv2, rfl, hfv2⟩, htz, hkz⟩
      obtain ⟨fa2, fc2, rfl⟩ := hfv2.1.val
      have HFv2 := Lib.hid hfv2
      have HTz := Lib.hid htz
      have HKz := Lib.hid (KeepT.tra HKr.out hkz)
      have H2z := Lib.hid (hkz.cells H2r.out (by decide))
      unfold foV foC
      obtain ⟨m2, hm2⟩ : ∃ m2, m2 = (foF q).length := ⟨_, rfl⟩
      rw [← hm2] at HFv2 ⊢
      clear hfv2 htz hkz w9 hm2 HCall
      go_upto_region 6 with (fail)
      have hn2 := one_new z (.cells #[.bool (foIs q), .int .i64 (foEn q), .int .i64 (foFar q), .int .i64 (foRt q), .slice fa2 m2 fc2] 73 (0, 0))
      refine gen_world (S := fun y => Below z.heap.size z y ∧ y.heap[z.heap.size]? = some (.cells #[.bool (foIs q), .int .i64 (foEn q), .int .i64 (foFar q), .int .i64 (foRt q), .slice fa2 m2 fc2] 73 (0, 0))) hn2 (fun y2 hy2 => ?_)
      obtain ⟨hb2, hf2⟩ := hy2
      obtain ⟨V, hV⟩ : ∃ V, V = z.heap.size := ⟨_, rfl⟩
      rw [← hV] at hf2 ⊢
      have HT2 := Lib.hid (HTz.out.later hb2)
      have HK2 := Lib.hid (KeepT.tra HKz.out (KeepT.ofBelow hb2))
      have H22 := Lib.hid ((hb2.block _ (lt_of_block H2z.out)).trans H2z.out)
      have HQ2 := Lib.hid (show FoBox y2 V q (.slice fa2 m2 fc2) from ⟨hf2, HFv2.out.later hb2⟩)
      clear hn2 hb2 hf2 hV HTz HKz H2z HFv2 HTr HKr H2r
      have hcq := HQ2.out.cells
      cases q with
      | miss fr =>
        simp only [foIs, foEn, foFar, foRt] at hcq ⊢
        obtain ⟨e0, e1, e2, e3, e4⟩ := hcq
        go_wp2
        go_roundw
        case rel => exact ⟨j + 1, max far fr, s1, by omega, rfl, by go_num, Lib.hid (by have h1 := HQ.out.1; have h2 := HQ.out.2; have h3 := HG.out.1; have h4 := HG.out.2; exact ⟨by omega, by omega⟩), Lib.hid ⟨Nat.le_trans HSl.out.1 HS.out.1, HSt.out⟩, HT2, HK2, H22⟩
        case measure => simp [intOf]; omega
      | hit h2 =>
        simp only [foIs, foEn, foFar, foRt] at hcq ⊢
        obtain ⟨e0, e1, e2, e3, e4⟩ := hcq
        have hst := HSt.out
        simp only [Option.some.injEq, Prod.mk.injEq] at hst
        obtain ⟨hr1, hs1⟩ := hst
        have HR1 := Lib.hid hr1
        have HS1 := Lib.hid hs1
        clear hr1 hs1
        go_wp2_with fail
        refine (tried_any true h2.en h2.far h2.roots (max far h2.far) fa2 m2 fc2 y2).mono ?_
        obtain ⟨zz, hzz⟩ : ∃ zz, zz = max h2.far (max far h2.far) := ⟨_, rfl⟩
        rw [← hzz]
        have HZz := Lib.hid hzz
        clear hzz
        rintro e w3 ⟨rfl, hb3⟩
        have HT3 := Lib.hid (HT2.out.later hb3)
        have HK3 := Lib.hid (KeepT.tra HK2.out (KeepT.ofBelow hb3))
        have H23 := Lib.hid ((hb3.block _ (lt_of_block H22.out)).trans H22.out)
        have HW3 := Lib.hid (HQ2.out.2.later hb3)
        clear hb3 e0 e1 e2 e3 e4
        obtain ⟨d0, d1, d2, d3, d4⟩ := five_box H23.out
        obtain ⟨g0, g1, g2, g3, g4⟩ := five_frz H23.out
        go_wp2
        rw [← HS1.out, ← HR1.out]
        obtain ⟨k5, hk5⟩ := set5 H23.out (.bool true) (.int .i64 h2.en) (.int .i64 zz) (.int .i64 h2.roots) (.slice fa2 m2 fc2)
        obtain ⟨q0, q1, q2, q3, q4⟩ := five_box k5
        have hxw : w.heap.size ≤ X + 1 := by have := HX.out; omega
        exact bodyPost_ret (v := .agg #[.bool true, .int .i64 h2.en, .int .i64 zz, .int .i64 h2.roots, .slice fa2 m2 fc2]) (by simp [results, Tryz.f131, go_sem, q0, q1, q2, q3, q4]) rfl ⟨⟨_, rfl, _, by rw [HZz.out]; rfl, HW3.out.res H23.out hk5⟩, HT3.out.res H23.out (Nat.le_trans H.out.base hxw) hk5, HK3.out.endAt hxw hk5⟩
end Go.Proofs.YtkimkghldilliaaGreat
