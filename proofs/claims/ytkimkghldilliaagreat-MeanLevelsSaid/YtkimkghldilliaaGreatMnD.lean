/-
  mean: a node is matched.
-/
import Derived.Test.YtkimkghldilliaaGreatMnC
namespace Go.Proofs.YtkimkghldilliaaGreat
open Go.RowKit Go.Lib

theorem way_enters (k : Int) (args : Array Value) (w : World) : (callFunc (wayF k) args).run Tryz.prog w = .ok (.enter (wayF k) args) w := by
  unfold wayF
  repeat' split
  · exact enters_of Tryz.func126 (by kernel_rfl) rfl args w
  · exact enters_of Tryz.func127 (by kernel_rfl) rfl args w
  · exact enters_of Tryz.func128 (by kernel_rfl) rfl args w
  · exact enters_of Tryz.func129 (by kernel_rfl) rfl args w
  · exact enters_of Tryz.func130 (by kernel_rfl) rfl args w
  · exact enters_of Tryz.func131 (by kernel_rfl) rfl args w
  · exact enters_of Tryz.func132 (by kernel_rfl) rfl args w
  · exact enters_of Tryz.func133 (by kernel_rfl) rfl args w
  · exact enters_of Tryz.func134 (by kernel_rfl) rfl args w
  · exact enters_of Tryz.func135 (by kernel_rfl) rfl args w
theorem BytesAt.val {w : World} {v : Value} {t : List UInt8} (h : BytesAt w v t) : ∃ ao cap, v = .slice ao t.length cap := by
  obtain ⟨ao, b, off, cap, rfl, -⟩ := h
  exact ⟨ao, cap, rfl⟩
theorem CxOk.shape {C : Cx} (h : CxOk C) : (∃ a c, C.rv = .slice a C.R.length c) ∧ (∃ a c, C.nv = .slice a C.N.length c) ∧ (∃ a c, C.wv = .slice a C.W.length c) := by
  obtain ⟨a, c, h1⟩ := h.gr.rules.val
  obtain ⟨a', c', h2⟩ := h.gr.nodes.val
  rw [List.length_map] at h1 h2
  exact ⟨⟨a, c, h1⟩, ⟨a', c', h2⟩, h.ws.val⟩
/-- a cell is put in the place of a result. -/
theorem TrS.res {C : Cx} {F : Live} {st : Ss} {w z : World} (h : TrS C F st w) {b : Nat} {cs : Array Value} (hb : w.heap[b]? = some (.cells cs 73 (0, 0))) (hB : C.w0.heap.size ≤ b) (hk : Keeps (· = b) w z) : TrS C F st z := by
  have k1 : KeepT C.w0.heap.size [73] false w z := one_keep hk hb hB (List.mem_singleton.2 rfl) (by simp)
  obtain ⟨sv, hs⟩ := h.sto
  exact ⟨h.bel.trans (k1.below h.base), k1.cells h.blk (by simp), ⟨sv, hs.keepT k1 (by simp) (by simp) (by simp)⟩, h.le⟩
/-- the end of a walk: the result's cell is set; new blocks, and what a callee keeps. -/
theorem KeepT.endAt {B : Nat} {w u z : World} {b : Nat} (h : KeepT B TTm true w u) (hbw : w.heap.size ≤ b) (hk : Keeps (· = b) u z) : KeepT B TTm true w z := by
  refine ⟨hk.os.trans h.os, hk.tape.trans h.tape, hk.output.trans h.output, Nat.le_trans h.size hk.size, fun i hi hn => ?_⟩
  rw [hk.block i (Nat.lt_of_lt_of_le hi h.size) (by omega)]
  exact h.block i hi hn

set_option maxRecDepth 100000 in
set_option maxHeartbeats 4000000 in
theorem match_over {C : Cx} (hC : CxOk C) (n p : Nat) {F : Live} {st : Ss} (w : World) (h : TrS C F st w) (hs : st.over = true ∨ st.left = 0) :
    Calls Tryz.prog 54 #[.pointer (some ⟨C.tb, 0, none⟩), .int .i64 n, .int .i64 p] w (Post C F (.miss (-1)) { st with over := true } w) := by
  have H := Lib.hid h
  have HC := Lib.hid hC
  have HP := Lib.hid (fun z (hz : TrS C F st z) => pay_no hC z hz hs)
  obtain ⟨tb, htb⟩ : ∃ tb, tb = C.tb := ⟨_, rfl⟩
  rw [← htb] at HP ⊢
  clear h hC hs htb
  go_enter Tryz.func54, Tryz.ntmps54
  go_upto_region 1 with (fail)
  refine gen_world (S := fun u => Below w.heap.size w u ∧ u.heap[w.heap.size]? = some (.cells #[.bool false, .int .i64 0, .int .i64 0, .int .i64 0, .slice none 0 0] 73 (0, 0))) (one_new w _) (fun u hu => ?_)
  obtain ⟨hb, h1⟩ := hu
  have HB := Lib.hid hb
  have H1 := Lib.hid h1
  obtain ⟨X, hX⟩ : ∃ X, X = w.heap.size := ⟨_, rfl⟩
  rw [← hX] at H1 ⊢
  have HX := Lib.hid hX
  clear hb h1 hX
  go_wp2_with fail
  refine (HP.out u (H.out.later HB.out)).mono ?_
  rintro e w2 ⟨rfl, ht, hk⟩
  have HT := Lib.hid ht
  have HK := Lib.hid hk
  have H2 := Lib.hid (hk.cells H1.out (by decide))
  clear ht hk
  go_wp2_with fail
  refine (miss_any (-1) w2).mono ?_
  rintro e w3 ⟨rfl, hb3⟩
  have HT3 := Lib.hid (HT.out.later hb3)
  have h3 := (hb3.block _ (lt_of_block H2.out)).trans H2.out
  have HK3 := Lib.hid (KeepT.tra (KeepT.ofBelow HB.out) (KeepT.tra HK.out (KeepT.ofBelow hb3)) : KeepT C.w0.heap.size TTm true w w3)
  obtain ⟨d0, d1, d2, d3, d4⟩ := five_box h3
  obtain ⟨g0, g1, g2, g3, g4⟩ := five_frz h3
  have H3 := Lib.hid h3
  clear hb3 h3
  go_wp2
  obtain ⟨k5, hk5⟩ := set5 H3.out (.bool false) (.int .i64 0) (.int .i64 (-1)) (.int .i64 0) (.slice none 0 0)
  obtain ⟨q0, q1, q2, q3, q4⟩ := five_box k5
  have hxw : w.heap.size ≤ X := Nat.le_of_eq HX.out.symm
  exact bodyPost_ret (v := .agg #[.bool false, .int .i64 0, .int .i64 (-1), .int .i64 0, .slice none 0 0]) (by simp [results, Tryz.f54, go_sem, q0, q1, q2, q3, q4]) rfl ⟨⟨_, rfl, _, rfl, TwIn.nil _⟩, HT3.out.res H3.out (Nat.le_trans H.out.base hxw) hk5, HK3.out.endAt hxw hk5⟩

set_option maxRecDepth 100000 in
set_option maxHeartbeats 4000000 in
theorem match_step {C : Cx} (hC : CxOk C) {f : Nat} {n p : Nat} {x : Nd} (hx : C.N[n]? = some x) (hW : WayC C f x) {F : Live} {l : Nat} {r : Fo} {st' : Ss} (w : World) (h : TrS C F ⟨l + 1, false⟩ w) (hL : LiveOk C F) (hp : p ≤ C.W.length) (hl : l ≤ f)
    (he : nodeE (ev false C.R C.N C.W f) false C.R C.W x p (lvF F) (f + 1) ⟨l, false⟩ = some (r, st')) :
    Calls Tryz.prog 54 #[.pointer (some ⟨C.tb, 0, none⟩), .int .i64 n, .int .i64 p] w (Post C F r st' w) := by
  have H := Lib.hid h
  have HC := Lib.hid hC
  have HP := Lib.hid (fun z (hz : TrS C F ⟨l + 1, false⟩ z) => pay_yes hC z hz)
  have hn : n < C.N.length := (List.getElem?_eq_some_iff.1 hx).1
  have hxn : C.N[n] = x := (List.getElem?_eq_some_iff.1 hx).2
  have hxm : x ∈ C.N := hxn ▸ List.getElem_mem hn
  have hkd := hC.gv.kind x hxm
  have hxw := hC.gr.wf x hxm
  have HWay := Lib.hid (fun z (hz : TrS C F ⟨l, false⟩ z) => hW p F ⟨l, false⟩ r st' z hz hL hp hl he)
  have HE := way_enters x.kind
  have HWy := Lib.hid (fun z => way_any x.kind z hkd)
  obtain ⟨⟨ra, rc, hrv⟩, ⟨na, nc, hnv⟩, ⟨wa, wc, hwv⟩⟩ := hC.shape
  obtain ⟨g, hg⟩ : ∃ g, g = wayF x.kind := ⟨_, rfl⟩
  rw [← hg] at HWay HE HWy
  have HNode := Lib.hid (show ∀ z, Below C.w0.heap.size C.w0 z → ∃ b off, na = some ⟨b, off, none⟩ ∧ z.cell? ⟨b, off + n * 9, none⟩ = some (.int .i64 x.kind) ∧ z.cell? ⟨b, off + n * 9 + 1, none⟩ = some (.int .u64 x.c0) ∧ z.cell? ⟨b, off + n * 9 + 2, none⟩ = some (.int .u64 x.c1) ∧ z.cell? ⟨b, off + n * 9 + 3, none⟩ = some (.int .u64 x.c2) ∧ z.cell? ⟨b, off + n * 9 + 4, none⟩ = some (.int .u64 x.c3) ∧ z.cell? ⟨b, off + n * 9 + 5, none⟩ = some (.string x.text) ∧ z.cell? ⟨b, off + n * 9 + 6, none⟩ = some (.int .i64 x.rule) ∧ z.cell? ⟨b, off + n * 9 + 7, none⟩ = some (.int .i64 x.level) ∧ z.cell? ⟨b, off + n * 9 + 8, none⟩ = some x.kv from fun z hz => by
    have hA : NdsAt z (.slice na C.N.length nc) C.N := hnv ▸ RowsAt.later hC.gr.nodes hz
    obtain ⟨b, off, e, -, hc⟩ := hA.cells.2.2.2 n hn
    rw [hxn] at hc
    exact ⟨b, off, e, hc⟩)
  obtain ⟨ka, kc, hkv⟩ := hxw.kv
  obtain ⟨kind, c0, c1, c2, c3, text, rule, level, kids, kv⟩ := x
  simp only at hkv HNode HWy
  subst hkv
  unfold ndv at HWay
  simp only at HWay
  obtain ⟨kn, hkn⟩ : ∃ kn, kn = kids.length := ⟨_, rfl⟩
  rw [← hkn] at HNode HWay
  have HNl := Lib.hid hn
  obtain ⟨len, hlen⟩ : ∃ len, len = C.N.length := ⟨_, rfl⟩
  rw [← hlen] at HNl hnv
  obtain ⟨tb, htb⟩ : ∃ tb, tb = C.tb := ⟨_, rfl⟩
  have HTb := Lib.hid htb
  rw [← htb] at HP HWay ⊢
  have HNv := Lib.hid hnv
  clear h hC hx hW hL hp hl he hn hxn hxm hkd hxw hg hkn hlen htb hnv hrv hwv
  go_enter Tryz.func54, Tryz.ntmps54
  go_upto_region 1 with (fail)
  refine gen_world (S := fun u => Below w.heap.size w u ∧ u.heap[w.heap.size]? = some (.cells #[.bool false, .int .i64 0, .int .i64 0, .int .i64 0, .slice none 0 0] 73 (0, 0))) (one_new w _) (fun u hu => ?_)
  obtain ⟨hb, h1⟩ := hu
  have HB := Lib.hid hb
  have H1 := Lib.hid h1
  obtain ⟨X, hX⟩ : ∃ X, X = w.heap.size := ⟨_, rfl⟩
  rw [← hX] at H1 ⊢
  have HX := Lib.hid hX
  clear hb h1 hX
  go_wp2_with fail
  refine (HP.out u (H.out.later HB.out)).mono ?_
  rintro e w2 ⟨rfl, ht, hk⟩
  have HT := Lib.hid ht
  have HK := Lib.hid hk
  have H2 := Lib.hid (hk.cells H1.out (by decide))
  obtain ⟨b, off, rfl, v0, v1, v2, v3, v4, v5, v6, v7, v8⟩ := HNode.out w2 ht.bel
  obtain ⟨-, -, -, -, t4, -⟩ := ht.cells
  rw [HNv.out, ← HTb.out] at t4
  have hn2 := HNl.out
  have hn3 : (n : Int) < len := by omega
  clear ht hk
  go_upto_region 4 with (fail)
  have hn := one_new w2 (.cells #[.int .i64 kind, .int .u64 c0, .int .u64 c1, .int .u64 c2, .int .u64 c3, .string text, .int .i64 rule, .int .i64 level, .slice ka kn kc] 60 (0, 0))
  refine gen_world (S := fun y => Below w2.heap.size w2 y ∧ y.heap[w2.heap.size]? = some (.cells #[.int .i64 kind, .int .u64 c0, .int .u64 c1, .int .u64 c2, .int .u64 c3, .string text, .int .i64 rule, .int .i64 level, .slice ka kn kc] 60 (0, 0))) hn (fun y hy => ?_)
  obtain ⟨hby, hny⟩ := hy
  have HTy := Lib.hid (HT.out.later hby)
  have HKy := Lib.hid (KeepT.tra (KeepT.ofBelow HB.out) (KeepT.tra HK.out (KeepT.ofBelow hby)) : KeepT C.w0.heap.size TTm true w y)
  have H1y := Lib.hid ((hby.block _ (lt_of_block H2.out)).trans H2.out)
  obtain ⟨Y, hY⟩ : ∃ Y, Y = w2.heap.size := ⟨_, rfl⟩
  rw [← hY] at hny ⊢
  have HNy := Lib.hid hny
  have HXY := Lib.hid (show X < Y by rw [hY]; exact lt_of_block H2.out)
  clear v0 v1 v2 v3 v4 v5 v6 v7 v8 t4 hn2 hn3 hn hby hny hY HT HK H2
  refine wp_region_held_drew (S := fun z => z.heap[Y]? = some (.cells #[.int .i64 kind, .int .u64 c0, .int .u64 c1, .int .u64 c2, .int .u64 c3, .string text, .int .i64 rule, .int .i64 level, .slice ka kn kc] 60 (0, 0))) (by kernel_rfl) HNy.out (fun hS => ?_)
  refine wpAnyH_take (i := 0) (oi := ⟨_, _, _, _, _, _⟩) (v := ?v1) rfl (by kernel_rfl) (by kernel_rfl) (by kernel_rfl) (fun _ _ _ h => h) ?y1 hS ?_
  case y1 => first | (refine Or.inr ⟨by rfl, ?_⟩; with_reducible rfl) | (refine Or.inl ⟨by rfl, ?_⟩; intro wS hSw; obtain ⟨v0, v1, v2, v3, v4, v5, v6, v7, v8⟩ := nine_box hSw; go_simp; try with_reducible rfl)
  simp only [Act.put, List.setIfInBounds_toArray, List.set_cons_zero, List.set_cons_succ]
  refine wpAnyH_take (i := 1) (oi := ⟨_, _, _, _, _, _⟩) (v := ?v2) rfl (by kernel_rfl) (by kernel_rfl) (by kernel_rfl) (fun _ _ _ h => h) ?y2 hS ?_
  case y2 => first | (refine Or.inr ⟨by rfl, ?_⟩; with_reducible rfl) | (refine Or.inl ⟨by rfl, ?_⟩; intro wS hSw; obtain ⟨v0, v1, v2, v3, v4, v5, v6, v7, v8⟩ := nine_box hSw; go_simp; try with_reducible rfl)
  simp only [Act.put, List.setIfInBounds_toArray, List.set_cons_zero, List.set_cons_succ]
  refine wpAnyH_take (i := 3) (oi := ⟨_, _, _, _, _, _⟩) (v := ?v3) rfl (by kernel_rfl) (by kernel_rfl) (by kernel_rfl) (fun _ _ _ h => h) ?y3 hS ?_
  case y3 => first | (refine Or.inr ⟨by rfl, ?_⟩; with_reducible rfl) | (refine Or.inl ⟨by rfl, ?_⟩; intro wS hSw; obtain ⟨v0, v1, v2, v3, v4, v5, v6, v7, v8⟩ := nine_box hSw; go_simp; try with_reducible rfl)
  simp only [Act.put, List.setIfInBounds_toArray, List.set_cons_zero, List.set_cons_succ]
  refine wpAnyH_take (i := 4) (oi := ⟨_, _, _, _, _, _⟩) (v := ?v4) rfl (by kernel_rfl) (by kernel_rfl) (by kernel_rfl) (fun _ _ _ h => h) ?y4 hS ?_
  case y4 => first | (refine Or.inr ⟨by rfl, ?_⟩; with_reducible rfl) | (refine Or.inl ⟨by rfl, ?_⟩; intro wS hSw; obtain ⟨v0, v1, v2, v3, v4, v5, v6, v7, v8⟩ := nine_box hSw; go_simp; try with_reducible rfl)
  simp only [Act.put, List.setIfInBounds_toArray, List.set_cons_zero, List.set_cons_succ]
  refine wpAnyH_take (i := 5) (oi := ⟨_, _, _, _, _, _⟩) (v := ?v5) rfl (by kernel_rfl) (by kernel_rfl) (by kernel_rfl) (fun _ _ _ h => h) ?y5 hS ?_
  case y5 => first | (refine Or.inr ⟨by rfl, ?_⟩; with_reducible rfl) | (refine Or.inl ⟨by rfl, ?_⟩; intro wS hSw; obtain ⟨v0, v1, v2, v3, v4, v5, v6, v7, v8⟩ := nine_box hSw; go_simp; try with_reducible rfl)
  simp only [Act.put, List.setIfInBounds_toArray, List.set_cons_zero, List.set_cons_succ]
  refine wpAnyH_ready (rs := [2]) (by kernel_rfl) (by simp) ?_
  refine AllReadyH.cons (o := ⟨_, _, _, _, _, _⟩) rfl (fun K hK => ?_) AllReadyH.nil
  go_simp
  refine (HWy.out _).mono ?_
  rintro e z ⟨rfl, rfl⟩
  go_wp2_with fail
  refine hK.out _ _ hS (fun hS2 => ?_)
  clear hK K hS2
  try simp only [Act.put, List.setIfInBounds_toArray, List.set_cons_zero, List.set_cons_succ]
  refine wpAnyH_ready (rs := [6]) (by kernel_rfl) (by simp) ?_
  refine AllReadyH.cons (o := ⟨_, _, _, _, _, _⟩) rfl (fun K hK => ?_) AllReadyH.nil
  go_simp
  refine (HWay.out _ (HTy.out.later ((Below.refl _ _).drew))).mono ?_
  rintro e z ⟨⟨v, rfl, fv, rfl, hfv⟩, htz, hkz⟩
  obtain ⟨fa, fc, rfl⟩ := hfv.1.val
  have HFv := Lib.hid hfv
  have HTz := Lib.hid htz
  have HKz := Lib.hid (KeepT.tra (KeepT.tra HKy.out (KeepT.ofBelow ((Below.refl _ _).drew))) hkz : KeepT C.w0.heap.size TTm true w z)
  have HSz := Lib.hid (hkz.cells hS (by decide))
  have H1z := Lib.hid (hkz.cells H1y.out (by decide))
  unfold foV foC
  obtain ⟨fn, hfn⟩ : ∃ fn, fn = (foF r).length := ⟨_, rfl⟩
  rw [← hfn] at HFv ⊢
  clear hfv htz hkz hfn hS
  go_wp2_with fail
  refine hK.out _ _ HSz.out (fun hS2 => ?_)
  clear hK K hS2
  try simp only [Act.put, List.setIfInBounds_toArray, List.set_cons_zero, List.set_cons_succ]
  refine wpAnyH_ready (rs := [7]) (by kernel_rfl) (by simp) ?_
  refine AllReadyH.cons (o := ⟨_, _, _, _, _, _⟩) rfl (fun K hK => ?_) AllReadyH.nil
  obtain ⟨d0, d1, d2, d3, d4⟩ := five_box H1z.out
  obtain ⟨g0, g1, g2, g3, g4⟩ := five_frz H1z.out
  go_simp
  obtain ⟨k5, hk5⟩ := set5 H1z.out (.bool (foIs r)) (.int .i64 (foEn r)) (.int .i64 (foFar r)) (.int .i64 (foRt r)) (.slice fa fn fc)
  refine hK.out _ _ (hk5.obj HSz.out (by have := HXY.out; omega)) (fun hS3 => ?_)
  clear hK K hS3
  try simp only [Act.put, List.setIfInBounds_toArray, List.set_cons_zero, List.set_cons_succ]
  refine wpAnyH_done (by kernel_rfl) ?_ _
  go_wp2
  obtain ⟨q0, q1, q2, q3, q4⟩ := five_box k5
  have hxw : w.heap.size ≤ X := Nat.le_of_eq HX.out.symm
  exact bodyPost_ret (v := foV r (.slice fa fn fc)) (by simp [results, Tryz.f54, go_sem, q0, q1, q2, q3, q4, foV, foC]) rfl ⟨⟨_, rfl, _, rfl, HFv.out.keepT (one_keep (mp := false) hk5 H1z.out (Nat.zero_le _) (List.mem_singleton.2 rfl) (by simp)) (by simp)⟩, HTz.out.res H1z.out (Nat.le_trans H.out.base hxw) hk5, HKz.out.endAt hxw hk5⟩
end Go.Proofs.YtkimkghldilliaaGreat
