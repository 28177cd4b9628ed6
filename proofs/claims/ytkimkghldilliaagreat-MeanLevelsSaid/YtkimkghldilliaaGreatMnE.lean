/-
  mean: nodes without kids.
-/
import Derived.Test.YtkimkghldilliaaGreatMnD
namespace Go.Proofs.YtkimkghldilliaaGreat
open Go.RowKit Go.Lib

set_option maxRecDepth 100000 in
set_option maxHeartbeats 4000000 in
theorem way_empty {C : Cx} (hC : CxOk C) {f : Nat} {x : Nd} (hx : x ∈ C.N) (hkd : x.kind = 1) (hM : MatchC C f) : WayC C f x := by
  intro p F st r st' w h hL hp hl he
  unfold nodeE at he
  rw [if_pos hkd] at he
  simp only [Option.some.injEq, Prod.mk.injEq] at he
  obtain ⟨rfl, rfl⟩ := he
  have he := trivial
  rw [show wayF x.kind = 126 from by unfold wayF; rw [if_pos hkd]]
  have H := Lib.hid h
  have HC := Lib.hid hC
  have HL := Lib.hid hL
  have HM := Lib.hid hM
  have HE := Lib.hid he
  have hxw := hC.gr.wf x hx
  have hW := hC.hW

  obtain ⟨⟨ra, rc, hrv⟩, ⟨na, nc, hnv⟩, ⟨wa, wc, hwv⟩⟩ := hC.shape
  obtain ⟨ka, kc, hkv⟩ := hxw.kv
  obtain ⟨tb, htb⟩ : ∃ tb, tb = C.tb := ⟨_, rfl⟩
  have HTb := Lib.hid htb
  rw [← htb]
  obtain ⟨wl, hwl⟩ : ∃ wl, wl = C.W.length := ⟨_, rfl⟩
  have HWl := Lib.hid hwl
  rw [← hwl] at hwv hp hW
  have HWv := Lib.hid hwv
  obtain ⟨kind, c0, c1, c2, c3, text, rule, level, kids, kv⟩ := x
  simp only at hkv 
  subst hkv
  unfold ndv
  simp only
  obtain ⟨kn, hkn⟩ : ∃ kn, kn = kids.length := ⟨_, rfl⟩
  have HKn := Lib.hid hkn
  rw [← hkn]
  clear hkn
  clear h hC hL hM he hp hl hx hkd hxw hW hrv hnv hwv htb hwl
  go_enter Tryz.func126, Tryz.ntmps126
  go_upto_region 1 with (fail)
  refine gen_world (S := fun u => Below w.heap.size w u ∧ u.heap[w.heap.size]? = some (.cells #[.int .i64 kind, .int .u64 c0, .int .u64 c1, .int .u64 c2, .int .u64 c3, .string text, .int .i64 rule, .int .i64 level, .slice ka kn kc] 60 (0, 0)) ∧ u.heap[w.heap.size + 1]? = some (.cells #[.bool false, .int .i64 0, .int .i64 0, .int .i64 0, .slice none 0 0] 73 (0, 0))) (two_new w _ _) (fun u hu => ?_)
  obtain ⟨hb, h1, h2⟩ := hu
  have HB := Lib.hid hb
  have H1 := Lib.hid h1
  have H2 := Lib.hid h2
  obtain ⟨X, hX⟩ : ∃ X, X = w.heap.size := ⟨_, rfl⟩
  rw [← hX] at H1 H2 ⊢
  have HX := Lib.hid hX
  have HT := Lib.hid (H.out.later hb)
  have HK := Lib.hid (KeepT.ofBelow hb : KeepT C.w0.heap.size TTm true w u)
  clear hb h1 h2 hX
  go_wp2_with fail
  refine (upTo_any (p : Int) u).mono ?_
  rintro e w1 ⟨rfl, hb1⟩
  have HT1 := Lib.hid (HT.out.later hb1)
  have HK1 := Lib.hid (KeepT.tra HK.out (KeepT.ofBelow hb1))
  have H21 := Lib.hid ((hb1.block _ (lt_of_block H2.out)).trans H2.out)
  clear hb1
  obtain ⟨d0, d1, d2, d3, d4⟩ := five_box H21.out
  obtain ⟨g0, g1, g2, g3, g4⟩ := five_frz H21.out
  go_wp2
  obtain ⟨k5, hk5⟩ := set5 H21.out (.bool true) (.int .i64 p) (.int .i64 (-1)) (.int .i64 0) (.slice none 0 0)
  obtain ⟨q0, q1, q2, q3, q4⟩ := five_box k5
  have hxw : w.heap.size ≤ X + 1 := by have := HX.out; omega
  exact bodyPost_ret (v := .agg #[.bool true, .int .i64 p, .int .i64 (-1), .int .i64 0, .slice none 0 0]) (by simp [results, Tryz.f126, go_sem, q0, q1, q2, q3, q4]) rfl ⟨⟨_, rfl, _, rfl, TwIn.nil _⟩, HT1.out.res H21.out (Nat.le_trans H.out.base hxw) hk5, HK1.out.endAt hxw hk5⟩
theorem cls_words (x : Nd) (h : NdW x) : clc (clsOf x) = #[.int .u64 x.c0, .int .u64 x.c1, .int .u64 x.c2, .int .u64 x.c3] := by
  obtain ⟨⟨a1, a2⟩, ⟨b1, b2⟩, ⟨c1, c2⟩, ⟨d1, d2⟩⟩ := h.cls
  have h0 : x.c0.toNat = word (clsOf x) 0 := word_eq (by omega) fun i hi => by
    unfold clsOf clWords; rw [if_pos (by omega)]; congr 1; omega
  have h1 : x.c1.toNat = word (clsOf x) 1 := word_eq (by omega) fun i hi => by
    unfold clsOf clWords; rw [if_neg (by omega), if_pos (by omega)]; exact congrArg (fun j => x.c1.toNat.testBit j) (by omega)
  have h2 : x.c2.toNat = word (clsOf x) 2 := word_eq (by omega) fun i hi => by
    unfold clsOf clWords; rw [if_neg (by omega), if_neg (by omega), if_pos (by omega)]; exact congrArg (fun j => x.c2.toNat.testBit j) (by omega)
  have h3 : x.c3.toNat = word (clsOf x) 3 := word_eq (by omega) fun i hi => by
    unfold clsOf clWords; rw [if_neg (by omega), if_neg (by omega), if_neg (by omega)]; exact congrArg (fun j => x.c3.toNat.testBit j) (by omega)
  unfold clc
  rw [← h0, ← h1, ← h2, ← h3, Int.toNat_of_nonneg a1, Int.toNat_of_nonneg b1, Int.toNat_of_nonneg c1, Int.toNat_of_nonneg d1]
/-- a byte of the input. -/
theorem CxOk.byte {C : Cx} (hC : CxOk C) {wa : Option Addr} {wl wc p : Nat} (hwv : C.wv = .slice wa wl wc) (hp : p < C.W.length) : ∃ b off, wa = some ⟨b, off, none⟩ ∧ ∀ z, Below C.w0.heap.size C.w0 z → z.cell? ⟨b, off + p, none⟩ = some (.int .u8 (C.W[p].toNat : Int)) := by
  obtain ⟨ao, b, off, cap, he, -, -, -, hao, hc⟩ := hC.ws
  rw [hwv] at he
  simp only [Value.slice.injEq] at he
  obtain ⟨rfl, -, -⟩ := he
  exact ⟨b, off, hao (by omega), fun z hz => cell_later hz (hc p hp)⟩
set_option maxRecDepth 100000 in
set_option maxHeartbeats 4000000 in
theorem one_A {C : Cx} (hC : CxOk C) {x : Nd} (hx : x ∈ C.N) (p : Nat) (F : Live) (st : Ss) (w : World) (h : TrS C F st w) (hp : p = C.W.length) :
    Calls Tryz.prog 127 #[.pointer (some ⟨C.tb, 0, none⟩), ndv x, .int .i64 p] w (Post C F (.miss p) st w) := by
  have H := Lib.hid h
  have hxw := hC.gr.wf x hx
  have hW := hC.hW
  obtain ⟨⟨ra, rc, hrv⟩, ⟨na, nc, hnv⟩, ⟨wa, wc, hwv⟩⟩ := hC.shape
  obtain ⟨ka, kc, hkv⟩ := hxw.kv
  obtain ⟨tb, htb⟩ : ∃ tb, tb = C.tb := ⟨_, rfl⟩
  have HTb := Lib.hid htb
  rw [← htb]
  obtain ⟨wl, hwl⟩ : ∃ wl, wl = C.W.length := ⟨_, rfl⟩
  have HWl := Lib.hid hwl
  rw [← hwl] at hwv hp hW
  have HWv := Lib.hid hwv
  obtain ⟨kind, c0, c1, c2, c3, text, rule, level, kids, kv⟩ := x
  simp only at hkv 
  subst hkv
  unfold ndv
  simp only
  obtain ⟨kn, hkn⟩ : ∃ kn, kn = kids.length := ⟨_, rfl⟩
  have HKn := Lib.hid hkn
  rw [← hkn]
  clear hkn
  have d0 : ((p : Int) == (wl : Int)) = true := by simp; omega
  have D := Lib.hid hp
  clear hp
  clear h hC hx hxw hW hrv hnv hwv htb hwl
  go_enter Tryz.func127, Tryz.ntmps127
  go_upto_region 1 with (fail)
  refine gen_world (S := fun u => Below w.heap.size w u ∧ u.heap[w.heap.size]? = some (.cells #[.int .i64 kind, .int .u64 c0, .int .u64 c1, .int .u64 c2, .int .u64 c3, .string text, .int .i64 rule, .int .i64 level, .slice ka kn kc] 60 (0, 0)) ∧ u.heap[w.heap.size + 1]? = some (.cells #[.bool false, .int .i64 0, .int .i64 0, .int .i64 0, .slice none 0 0] 73 (0, 0))) (two_new w _ _) (fun u hu => ?_)
  obtain ⟨hb, h1, h2⟩ := hu
  have HB := Lib.hid hb
  have H1 := Lib.hid h1
  have H2 := Lib.hid h2
  obtain ⟨X, hX⟩ : ∃ X, X = w.heap.size := ⟨_, rfl⟩
  rw [← hX] at H1 H2 ⊢
  have HX := Lib.hid hX
  have HT := Lib.hid (H.out.later hb)
  have HK := Lib.hid (KeepT.ofBelow hb : KeepT C.w0.heap.size TTm true w u)
  clear hb h1 h2 hX
  refine wp_region_held_drew (S := fun z => Below u.heap.size u z) (by kernel_rfl) (Below.refl u.heap.size u).drew (fun hS => ?_)
  refine wpAnyH_take (i := 0) (oi := ⟨_, _, _, _, _, _⟩) (v := ?v1) rfl (by kernel_rfl) (by kernel_rfl) (by kernel_rfl) (fun _ _ _ h => h) ?y1 hS ?_
  case y1 => first | (refine Or.inr ⟨by rfl, ?_⟩; with_reducible rfl) | (refine Or.inl ⟨by rfl, ?_⟩; intro wS hSw; obtain ⟨v0, v1, v2, v3, v4, v5, v6, v7, v8⟩ := nine_box ((hSw.block _ (lt_of_block H1.out)).trans H1.out); obtain ⟨-, -, -, -, -, t5, -⟩ := (HT.out.later hSw).cells; rw [HWv.out, ← HTb.out] at t5; go_simp; try with_reducible rfl)
  simp only [Act.put, List.setIfInBounds_toArray, List.set_cons_zero, List.set_cons_succ]
  refine wpAnyH_take (i := 1) (oi := ⟨_, _, _, _, _, _⟩) (v := ?v2) rfl (by kernel_rfl) (by kernel_rfl) (by kernel_rfl) (fun _ _ _ h => h) ?y2 hS ?_
  case y2 => first | (refine Or.inr ⟨by rfl, ?_⟩; with_reducible rfl) | (refine Or.inl ⟨by rfl, ?_⟩; intro wS hSw; obtain ⟨v0, v1, v2, v3, v4, v5, v6, v7, v8⟩ := nine_box ((hSw.block _ (lt_of_block H1.out)).trans H1.out); obtain ⟨-, -, -, -, -, t5, -⟩ := (HT.out.later hSw).cells; rw [HWv.out, ← HTb.out] at t5; go_simp; try with_reducible rfl)
  simp only [Act.put, List.setIfInBounds_toArray, List.set_cons_zero, List.set_cons_succ]
  refine wpAnyH_take (i := 2) (oi := ⟨_, _, _, _, _, _⟩) (v := ?v3) rfl (by kernel_rfl) (by kernel_rfl) (by kernel_rfl) (fun _ _ _ h => h) ?y3 hS ?_
  case y3 => first | (refine Or.inr ⟨by rfl, ?_⟩; with_reducible rfl) | (refine Or.inl ⟨by rfl, ?_⟩; intro wS hSw; obtain ⟨v0, v1, v2, v3, v4, v5, v6, v7, v8⟩ := nine_box ((hSw.block _ (lt_of_block H1.out)).trans H1.out); obtain ⟨-, -, -, -, -, t5, -⟩ := (HT.out.later hSw).cells; rw [HWv.out, ← HTb.out] at t5; go_simp; try with_reducible rfl)
  simp only [Act.put, List.setIfInBounds_toArray, List.set_cons_zero, List.set_cons_succ]
  refine wpAnyH_take (i := 3) (oi := ⟨_, _, _, _, _, _⟩) (v := ?v4) rfl (by kernel_rfl) (by kernel_rfl) (by kernel_rfl) (fun _ _ _ h => h) ?y4 hS ?_
  case y4 => first | (refine Or.inr ⟨by rfl, ?_⟩; with_reducible rfl) | (refine Or.inl ⟨by rfl, ?_⟩; intro wS hSw; obtain ⟨v0, v1, v2, v3, v4, v5, v6, v7, v8⟩ := nine_box ((hSw.block _ (lt_of_block H1.out)).trans H1.out); obtain ⟨-, -, -, -, -, t5, -⟩ := (HT.out.later hSw).cells; rw [HWv.out, ← HTb.out] at t5; go_simp; try with_reducible rfl)
  simp only [Act.put, List.setIfInBounds_toArray, List.set_cons_zero, List.set_cons_succ]
  refine wpAnyH_take (i := 4) (oi := ⟨_, _, _, _, _, _⟩) (v := ?v5) rfl (by kernel_rfl) (by kernel_rfl) (by kernel_rfl) (fun _ _ _ h => h) ?y5 hS ?_
  case y5 => first | (refine Or.inr ⟨by rfl, ?_⟩; with_reducible rfl) | (refine Or.inl ⟨by rfl, ?_⟩; intro wS hSw; obtain ⟨v0, v1, v2, v3, v4, v5, v6, v7, v8⟩ := nine_box ((hSw.block _ (lt_of_block H1.out)).trans H1.out); obtain ⟨-, -, -, -, -, t5, -⟩ := (HT.out.later hSw).cells; rw [HWv.out, ← HTb.out] at t5; go_simp; try with_reducible rfl)
  simp only [Act.put, List.setIfInBounds_toArray, List.set_cons_zero, List.set_cons_succ]
  refine wpAnyH_take (i := 5) (oi := ⟨_, _, _, _, _, _⟩) (v := ?v6) rfl (by kernel_rfl) (by kernel_rfl) (by kernel_rfl) (fun _ _ _ h => h) ?y6 hS ?_
  case y6 => first | (refine Or.inr ⟨by rfl, ?_⟩; with_reducible rfl) | (refine Or.inl ⟨by rfl, ?_⟩; intro wS hSw; obtain ⟨v0, v1, v2, v3, v4, v5, v6, v7, v8⟩ := nine_box ((hSw.block _ (lt_of_block H1.out)).trans H1.out); obtain ⟨-, -, -, -, -, t5, -⟩ := (HT.out.later hSw).cells; rw [HWv.out, ← HTb.out] at t5; go_simp; try with_reducible rfl)
  simp only [Act.put, List.setIfInBounds_toArray, List.set_cons_zero, List.set_cons_succ]
  refine wpAnyH_take (i := 6) (oi := ⟨_, _, _, _, _, _⟩) (v := ?v7) rfl (by kernel_rfl) (by kernel_rfl) (by kernel_rfl) (fun _ _ _ h => h) ?y7 hS ?_
  case y7 => first | (refine Or.inr ⟨by rfl, ?_⟩; with_reducible rfl) | (refine Or.inl ⟨by rfl, ?_⟩; intro wS hSw; obtain ⟨v0, v1, v2, v3, v4, v5, v6, v7, v8⟩ := nine_box ((hSw.block _ (lt_of_block H1.out)).trans H1.out); obtain ⟨-, -, -, -, -, t5, -⟩ := (HT.out.later hSw).cells; rw [HWv.out, ← HTb.out] at t5; go_simp; try with_reducible rfl)
  simp only [Act.put, List.setIfInBounds_toArray, List.set_cons_zero, List.set_cons_succ]
  refine wpAnyH_take (i := 7) (oi := ⟨_, _, _, _, _, _⟩) (v := ?v8) rfl (by kernel_rfl) (by kernel_rfl) (by kernel_rfl) (fun _ _ _ h => h) ?y8 hS ?_
  case y8 => first | (refine Or.inr ⟨by rfl, ?_⟩; with_reducible rfl) | (refine Or.inl ⟨by rfl, ?_⟩; intro wS hSw; obtain ⟨v0, v1, v2, v3, v4, v5, v6, v7, v8⟩ := nine_box ((hSw.block _ (lt_of_block H1.out)).trans H1.out); obtain ⟨-, -, -, -, -, t5, -⟩ := (HT.out.later hSw).cells; rw [HWv.out, ← HTb.out] at t5; go_simp; try with_reducible rfl)
  simp only [Act.put, List.setIfInBounds_toArray, List.set_cons_zero, List.set_cons_succ]
  refine wpAnyH_take (i := 8) (oi := ⟨_, _, _, _, _, _⟩) (v := ?v9) rfl (by kernel_rfl) (by kernel_rfl) (by kernel_rfl) (fun _ _ _ h => h) ?y9 hS ?_
  case y9 => first | (refine Or.inr ⟨by rfl, ?_⟩; with_reducible rfl) | (refine Or.inl ⟨by rfl, ?_⟩; intro wS hSw; obtain ⟨v0, v1, v2, v3, v4, v5, v6, v7, v8⟩ := nine_box ((hSw.block _ (lt_of_block H1.out)).trans H1.out); obtain ⟨-, -, -, -, -, t5, -⟩ := (HT.out.later hSw).cells; rw [HWv.out, ← HTb.out] at t5; go_simp; try with_reducible rfl)
  simp only [Act.put, List.setIfInBounds_toArray, List.set_cons_zero, List.set_cons_succ]
  refine wpAnyH_take (i := 9) (oi := ⟨_, _, _, _, _, _⟩) (v := ?v10) rfl (by kernel_rfl) (by kernel_rfl) (by kernel_rfl) (fun _ _ _ h => h) ?y10 hS ?_
  case y10 => first | (refine Or.inr ⟨by rfl, ?_⟩; with_reducible rfl) | (refine Or.inl ⟨by rfl, ?_⟩; intro wS hSw; obtain ⟨v0, v1, v2, v3, v4, v5, v6, v7, v8⟩ := nine_box ((hSw.block _ (lt_of_block H1.out)).trans H1.out); obtain ⟨-, -, -, -, -, t5, -⟩ := (HT.out.later hSw).cells; rw [HWv.out, ← HTb.out] at t5; go_simp; try with_reducible rfl)
  simp only [Act.put, List.setIfInBounds_toArray, List.set_cons_zero, List.set_cons_succ]
  refine wpAnyH_take (i := 10) (oi := ⟨_, _, _, _, _, _⟩) (v := ?v11) rfl (by kernel_rfl) (by kernel_rfl) (by kernel_rfl) (fun _ _ _ h => h) ?y11 hS ?_
  case y11 => first | (refine Or.inr ⟨by rfl, ?_⟩; with_reducible rfl) | (refine Or.inl ⟨by rfl, ?_⟩; intro wS hSw; obtain ⟨v0, v1, v2, v3, v4, v5, v6, v7, v8⟩ := nine_box ((hSw.block _ (lt_of_block H1.out)).trans H1.out); obtain ⟨-, -, -, -, -, t5, -⟩ := (HT.out.later hSw).cells; rw [HWv.out, ← HTb.out] at t5; go_simp; try with_reducible rfl)
  simp only [Act.put, List.setIfInBounds_toArray, List.set_cons_zero, List.set_cons_succ]
  refine wpAnyH_take (i := 11) (oi := ⟨_, _, _, _, _, _⟩) (v := ?v12) rfl (by kernel_rfl) (by kernel_rfl) (by kernel_rfl) (fun _ _ _ h => h) ?y12 hS ?_
  case y12 => first | (refine Or.inr ⟨by rfl, ?_⟩; with_reducible rfl) | (refine Or.inl ⟨by rfl, ?_⟩; intro wS hSw; obtain ⟨v0, v1, v2, v3, v4, v5, v6, v7, v8⟩ := nine_box ((hSw.block _ (lt_of_block H1.out)).trans H1.out); obtain ⟨-, -, -, -, -, t5, -⟩ := (HT.out.later hSw).cells; rw [HWv.out, ← HTb.out] at t5; go_simp; try with_reducible rfl)
  simp only [Act.put, List.setIfInBounds_toArray, List.set_cons_zero, List.set_cons_succ]
  refine wpAnyH_take (i := 12) (oi := ⟨_, _, _, _, _, _⟩) (v := ?v13) rfl (by kernel_rfl) (by kernel_rfl) (by kernel_rfl) (fun _ _ _ h => h) ?y13 hS ?_
  case y13 => first | (refine Or.inr ⟨by rfl, ?_⟩; with_reducible rfl) | (refine Or.inl ⟨by rfl, ?_⟩; intro wS hSw; obtain ⟨v0, v1, v2, v3, v4, v5, v6, v7, v8⟩ := nine_box ((hSw.block _ (lt_of_block H1.out)).trans H1.out); obtain ⟨-, -, -, -, -, t5, -⟩ := (HT.out.later hSw).cells; rw [HWv.out, ← HTb.out] at t5; go_simp; try with_reducible rfl)
  simp only [Act.put, List.setIfInBounds_toArray, List.set_cons_zero, List.set_cons_succ]
  refine wpAnyH_take (i := 13) (oi := ⟨_, _, _, _, _, _⟩) (v := ?v14) rfl (by kernel_rfl) (by kernel_rfl) (by kernel_rfl) (fun _ _ _ h => h) ?y14 hS ?_
  case y14 => first | (refine Or.inr ⟨by rfl, ?_⟩; with_reducible rfl) | (refine Or.inl ⟨by rfl, ?_⟩; intro wS hSw; obtain ⟨v0, v1, v2, v3, v4, v5, v6, v7, v8⟩ := nine_box ((hSw.block _ (lt_of_block H1.out)).trans H1.out); obtain ⟨-, -, -, -, -, t5, -⟩ := (HT.out.later hSw).cells; rw [HWv.out, ← HTb.out] at t5; go_simp; try with_reducible rfl)
  simp only [Act.put, List.setIfInBounds_toArray, List.set_cons_zero, List.set_cons_succ]
  refine wpAnyH_take (i := 14) (oi := ⟨_, _, _, _, _, _⟩) (v := ?v15) rfl (by kernel_rfl) (by kernel_rfl) (by kernel_rfl) (fun _ _ _ h => h) ?y15 hS ?_
  case y15 => first | (refine Or.inr ⟨by rfl, ?_⟩; with_reducible rfl) | (refine Or.inl ⟨by rfl, ?_⟩; intro wS hSw; obtain ⟨v0, v1, v2, v3, v4, v5, v6, v7, v8⟩ := nine_box ((hSw.block _ (lt_of_block H1.out)).trans H1.out); obtain ⟨-, -, -, -, -, t5, -⟩ := (HT.out.later hSw).cells; rw [HWv.out, ← HTb.out] at t5; go_simp; try with_reducible rfl)
  simp only [Act.put, List.setIfInBounds_toArray, List.set_cons_zero, List.set_cons_succ]
  refine wpAnyH_take (i := 15) (oi := ⟨_, _, _, _, _, _⟩) (v := ?v16) rfl (by kernel_rfl) (by kernel_rfl) (by kernel_rfl) (fun _ _ _ h => h) ?y16 hS ?_
  case y16 => first | (refine Or.inr ⟨by rfl, ?_⟩; with_reducible rfl) | (refine Or.inl ⟨by rfl, ?_⟩; intro wS hSw; obtain ⟨v0, v1, v2, v3, v4, v5, v6, v7, v8⟩ := nine_box ((hSw.block _ (lt_of_block H1.out)).trans H1.out); obtain ⟨-, -, -, -, -, t5, -⟩ := (HT.out.later hSw).cells; rw [HWv.out, ← HTb.out] at t5; go_simp; try with_reducible rfl)
  simp only [Act.put, List.setIfInBounds_toArray, List.set_cons_zero, List.set_cons_succ]
  refine wpAnyH_take (i := 16) (oi := ⟨_, _, _, _, _, _⟩) (v := ?v17) rfl (by kernel_rfl) (by kernel_rfl) (by kernel_rfl) (fun _ _ _ h => h) ?y17 hS ?_
  case y17 => first | (refine Or.inr ⟨by rfl, ?_⟩; with_reducible rfl) | (refine Or.inl ⟨by rfl, ?_⟩; intro wS hSw; obtain ⟨v0, v1, v2, v3, v4, v5, v6, v7, v8⟩ := nine_box ((hSw.block _ (lt_of_block H1.out)).trans H1.out); obtain ⟨-, -, -, -, -, t5, -⟩ := (HT.out.later hSw).cells; rw [HWv.out, ← HTb.out] at t5; go_simp; try with_reducible rfl)
  simp only [Act.put, List.setIfInBounds_toArray, List.set_cons_zero, List.set_cons_succ]
  refine wpAnyH_take (i := 17) (oi := ⟨_, _, _, _, _, _⟩) (v := ?v18) rfl (by kernel_rfl) (by kernel_rfl) (by kernel_rfl) (fun _ _ _ h => h) ?y18 hS ?_
  case y18 => first | (refine Or.inr ⟨by rfl, ?_⟩; with_reducible rfl) | (refine Or.inl ⟨by rfl, ?_⟩; intro wS hSw; obtain ⟨v0, v1, v2, v3, v4, v5, v6, v7, v8⟩ := nine_box ((hSw.block _ (lt_of_block H1.out)).trans H1.out); obtain ⟨-, -, -, -, -, t5, -⟩ := (HT.out.later hSw).cells; rw [HWv.out, ← HTb.out] at t5; go_simp; try with_reducible rfl)
  simp only [Act.put, List.setIfInBounds_toArray, List.set_cons_zero, List.set_cons_succ]
  refine wpAnyH_take (i := 18) (oi := ⟨_, _, _, _, _, _⟩) (v := ?v19) rfl (by kernel_rfl) (by kernel_rfl) (by kernel_rfl) (fun _ _ _ h => h) ?y19 hS ?_
  case y19 => first | (refine Or.inr ⟨by rfl, ?_⟩; with_reducible rfl) | (refine Or.inl ⟨by rfl, ?_⟩; intro wS hSw; obtain ⟨v0, v1, v2, v3, v4, v5, v6, v7, v8⟩ := nine_box ((hSw.block _ (lt_of_block H1.out)).trans H1.out); obtain ⟨-, -, -, -, -, t5, -⟩ := (HT.out.later hSw).cells; rw [HWv.out, ← HTb.out] at t5; go_simp; try with_reducible rfl)
  simp only [Act.put, List.setIfInBounds_toArray, List.set_cons_zero, List.set_cons_succ]
  refine wpAnyH_take (i := 19) (oi := ⟨_, _, _, _, _, _⟩) (v := ?v20) rfl (by kernel_rfl) (by kernel_rfl) (by kernel_rfl) (fun _ _ _ h => h) ?y20 hS ?_
  case y20 => first | (refine Or.inr ⟨by rfl, ?_⟩; with_reducible rfl) | (refine Or.inl ⟨by rfl, ?_⟩; intro wS hSw; obtain ⟨v0, v1, v2, v3, v4, v5, v6, v7, v8⟩ := nine_box ((hSw.block _ (lt_of_block H1.out)).trans H1.out); obtain ⟨-, -, -, -, -, t5, -⟩ := (HT.out.later hSw).cells; rw [HWv.out, ← HTb.out] at t5; go_simp; try with_reducible rfl)
  simp only [Act.put, List.setIfInBounds_toArray, List.set_cons_zero, List.set_cons_succ]
  refine wpAnyH_take (i := 20) (oi := ⟨_, _, _, _, _, _⟩) (v := ?v21) rfl (by kernel_rfl) (by kernel_rfl) (by kernel_rfl) (fun _ _ _ h => h) ?y21 hS ?_
  case y21 => first | (refine Or.inr ⟨by rfl, ?_⟩; with_reducible rfl) | (refine Or.inl ⟨by rfl, ?_⟩; intro wS hSw; obtain ⟨v0, v1, v2, v3, v4, v5, v6, v7, v8⟩ := nine_box ((hSw.block _ (lt_of_block H1.out)).trans H1.out); obtain ⟨-, -, -, -, -, t5, -⟩ := (HT.out.later hSw).cells; rw [HWv.out, ← HTb.out] at t5; go_simp; try with_reducible rfl)
  simp only [Act.put, List.setIfInBounds_toArray, List.set_cons_zero, List.set_cons_succ]
  refine wpAnyH_take (i := 21) (oi := ⟨_, _, _, _, _, _⟩) (v := ?v22) rfl (by kernel_rfl) (by kernel_rfl) (by kernel_rfl) (fun _ _ _ h => h) ?y22 hS ?_
  case y22 => first | (refine Or.inr ⟨by rfl, ?_⟩; with_reducible rfl) | (refine Or.inl ⟨by rfl, ?_⟩; intro wS hSw; obtain ⟨v0, v1, v2, v3, v4, v5, v6, v7, v8⟩ := nine_box ((hSw.block _ (lt_of_block H1.out)).trans H1.out); obtain ⟨-, -, -, -, -, t5, -⟩ := (HT.out.later hSw).cells; rw [HWv.out, ← HTb.out] at t5; go_simp; try with_reducible rfl)
  simp only [Act.put, List.setIfInBounds_toArray, List.set_cons_zero, List.set_cons_succ]
  refine wpAnyH_take (i := 22) (oi := ⟨_, _, _, _, _, _⟩) (v := ?v23) rfl (by kernel_rfl) (by kernel_rfl) (by kernel_rfl) (fun _ _ _ h => h) ?y23 hS ?_
  case y23 => first | (refine Or.inr ⟨by rfl, ?_⟩; with_reducible rfl) | (refine Or.inl ⟨by rfl, ?_⟩; intro wS hSw; obtain ⟨v0, v1, v2, v3, v4, v5, v6, v7, v8⟩ := nine_box ((hSw.block _ (lt_of_block H1.out)).trans H1.out); obtain ⟨-, -, -, -, -, t5, -⟩ := (HT.out.later hSw).cells; rw [HWv.out, ← HTb.out] at t5; go_simp; try with_reducible rfl)
  simp only [Act.put, List.setIfInBounds_toArray, List.set_cons_zero, List.set_cons_succ]
  refine wpAnyH_take (i := 23) (oi := ⟨_, _, _, _, _, _⟩) (v := ?v24) rfl (by kernel_rfl) (by kernel_rfl) (by kernel_rfl) (fun _ _ _ h => h) ?y24 hS ?_
  case y24 => first | (refine Or.inr ⟨by rfl, ?_⟩; with_reducible rfl) | (refine Or.inl ⟨by rfl, ?_⟩; intro wS hSw; obtain ⟨v0, v1, v2, v3, v4, v5, v6, v7, v8⟩ := nine_box ((hSw.block _ (lt_of_block H1.out)).trans H1.out); obtain ⟨-, -, -, -, -, t5, -⟩ := (HT.out.later hSw).cells; rw [HWv.out, ← HTb.out] at t5; go_simp; try with_reducible rfl)
  simp only [Act.put, List.setIfInBounds_toArray, List.set_cons_zero, List.set_cons_succ]
  refine wpAnyH_take (i := 24) (oi := ⟨_, _, _, _, _, _⟩) (v := ?v25) rfl (by kernel_rfl) (by kernel_rfl) (by kernel_rfl) (fun _ _ _ h => h) ?y25 hS ?_
  case y25 => first | (refine Or.inr ⟨by rfl, ?_⟩; with_reducible rfl) | (refine Or.inl ⟨by rfl, ?_⟩; intro wS hSw; obtain ⟨v0, v1, v2, v3, v4, v5, v6, v7, v8⟩ := nine_box ((hSw.block _ (lt_of_block H1.out)).trans H1.out); obtain ⟨-, -, -, -, -, t5, -⟩ := (HT.out.later hSw).cells; rw [HWv.out, ← HTb.out] at t5; go_simp; try with_reducible rfl)
  simp only [Act.put, List.setIfInBounds_toArray, List.set_cons_zero, List.set_cons_succ]
  refine wpAnyH_done (by kernel_rfl) ?_ _
  have HSf := Lib.hid hS
  clear hS
  go_wp2_with fail
  refine (miss_any (p : Int) _).mono ?_
  rintro e w1 ⟨rfl, hb1⟩
  have hu1 := HSf.out.trans (hb1.mono HSf.out.size)
  have HT1 := Lib.hid (HT.out.later hu1)
  have HK1 := Lib.hid (KeepT.tra HK.out (KeepT.ofBelow hu1))
  have H21 := Lib.hid ((hu1.block _ (lt_of_block H2.out)).trans H2.out)
  clear hb1 hu1
  obtain ⟨d0, d1, d2, d3, d4⟩ := five_box H21.out
  obtain ⟨g0, g1, g2, g3, g4⟩ := five_frz H21.out
  go_wp2
  obtain ⟨k5, hk5⟩ := set5 H21.out (.bool false) (.int .i64 0) (.int .i64 p) (.int .i64 0) (.slice none 0 0)
  obtain ⟨q0, q1, q2, q3, q4⟩ := five_box k5
  have hxw : w.heap.size ≤ X + 1 := by have := HX.out; omega
  exact bodyPost_ret (v := .agg #[.bool false, .int .i64 0, .int .i64 p, .int .i64 0, .slice none 0 0]) (by simp [results, Tryz.f127, go_sem, q0, q1, q2, q3, q4]) rfl ⟨⟨_, rfl, _, rfl, TwIn.nil _⟩, HT1.out.res H21.out (Nat.le_trans H.out.base hxw) hk5, HK1.out.endAt hxw hk5⟩
set_option maxRecDepth 100000 in
set_option maxHeartbeats 4000000 in
theorem one_B {C : Cx} (hC : CxOk C) {x : Nd} (hx : x ∈ C.N) (p : Nat) (F : Live) (st : Ss) (w : World) (h : TrS C F st w) (hk : x.kind = 2) (hp : p < C.W.length) :
    Calls Tryz.prog 127 #[.pointer (some ⟨C.tb, 0, none⟩), ndv x, .int .i64 p] w (Post C F (.hit (upTo (p + 1))) st w) := by
  have H := Lib.hid h
  have hxw := hC.gr.wf x hx
  have hW := hC.hW
  obtain ⟨⟨ra, rc, hrv⟩, ⟨na, nc, hnv⟩, ⟨wa, wc, hwv⟩⟩ := hC.shape
  obtain ⟨ka, kc, hkv⟩ := hxw.kv
  obtain ⟨b, off, rfl, hby⟩ := hC.byte hwv hp
  have HBy := Lib.hid hby
  clear hby
  obtain ⟨c, hc⟩ : ∃ c, c = C.W[p] := ⟨_, rfl⟩
  rw [← hc] at HBy
  clear hc
  obtain ⟨tb, htb⟩ : ∃ tb, tb = C.tb := ⟨_, rfl⟩
  have HTb := Lib.hid htb
  rw [← htb]
  obtain ⟨wl, hwl⟩ : ∃ wl, wl = C.W.length := ⟨_, rfl⟩
  have HWl := Lib.hid hwl
  rw [← hwl] at hwv hp hW
  have HWv := Lib.hid hwv
  obtain ⟨kind, c0, c1, c2, c3, text, rule, level, kids, kv⟩ := x
  simp only at hkv hk
  subst hkv
  unfold ndv
  simp only
  obtain ⟨kn, hkn⟩ : ∃ kn, kn = kids.length := ⟨_, rfl⟩
  have HKn := Lib.hid hkn
  rw [← hkn]
  clear hkn
  subst hk
  have d0 : ((p : Int) == (wl : Int)) = false := by simp; omega
  have d1 : ¬ (p : Int) = (wl : Int) := by omega
  have d2 : (p : Int) < (wl : Int) := by omega
  have hw1 : IntKind.i64.wrap ((p : Int) + 1) = ((p + 1 : Nat) : Int) := by rw [IntWalk.i64_in _ (by omega)]; omega
  clear h hC hx hxw hW hrv hnv hwv htb hwl
  go_enter Tryz.func127, Tryz.ntmps127
  go_upto_region 1 with (fail)
  refine gen_world (S := fun u => Below w.heap.size w u ∧ u.heap[w.heap.size]? = some (.cells #[.int .i64 2, .int .u64 c0, .int .u64 c1, .int .u64 c2, .int .u64 c3, .string text, .int .i64 rule, .int .i64 level, .slice ka kn kc] 60 (0, 0)) ∧ u.heap[w.heap.size + 1]? = some (.cells #[.bool false, .int .i64 0, .int .i64 0, .int .i64 0, .slice none 0 0] 73 (0, 0))) (two_new w _ _) (fun u hu => ?_)
  obtain ⟨hb, h1, h2⟩ := hu
  have HB := Lib.hid hb
  have H1 := Lib.hid h1
  have H2 := Lib.hid h2
  obtain ⟨X, hX⟩ : ∃ X, X = w.heap.size := ⟨_, rfl⟩
  rw [← hX] at H1 H2 ⊢
  have HX := Lib.hid hX
  have HT := Lib.hid (H.out.later hb)
  have HK := Lib.hid (KeepT.ofBelow hb : KeepT C.w0.heap.size TTm true w u)
  clear hb h1 h2 hX
  refine wp_region_held_drew (S := fun z => Below u.heap.size u z) (by kernel_rfl) (Below.refl u.heap.size u).drew (fun hS => ?_)
  refine wpAnyH_take (i := 0) (oi := ⟨_, _, _, _, _, _⟩) (v := ?v26) rfl (by kernel_rfl) (by kernel_rfl) (by kernel_rfl) (fun _ _ _ h => h) ?y26 hS ?_
  case y26 => first | (refine Or.inr ⟨by rfl, ?_⟩; with_reducible rfl) | (refine Or.inl ⟨by rfl, ?_⟩; intro wS hSw; obtain ⟨v0, v1, v2, v3, v4, v5, v6, v7, v8⟩ := nine_box ((hSw.block _ (lt_of_block H1.out)).trans H1.out); obtain ⟨-, -, -, -, -, t5, -⟩ := (HT.out.later hSw).cells; rw [HWv.out, ← HTb.out] at t5; have b0 := HBy.out wS (HT.out.later hSw).bel; go_simp; try with_reducible rfl)
  simp only [Act.put, List.setIfInBounds_toArray, List.set_cons_zero, List.set_cons_succ]
  refine wpAnyH_take (i := 1) (oi := ⟨_, _, _, _, _, _⟩) (v := ?v27) rfl (by kernel_rfl) (by kernel_rfl) (by kernel_rfl) (fun _ _ _ h => h) ?y27 hS ?_
  case y27 => first | (refine Or.inr ⟨by rfl, ?_⟩; with_reducible rfl) | (refine Or.inl ⟨by rfl, ?_⟩; intro wS hSw; obtain ⟨v0, v1, v2, v3, v4, v5, v6, v7, v8⟩ := nine_box ((hSw.block _ (lt_of_block H1.out)).trans H1.out); obtain ⟨-, -, -, -, -, t5, -⟩ := (HT.out.later hSw).cells; rw [HWv.out, ← HTb.out] at t5; have b0 := HBy.out wS (HT.out.later hSw).bel; go_simp; try with_reducible rfl)
  simp only [Act.put, List.setIfInBounds_toArray, List.set_cons_zero, List.set_cons_succ]
  refine wpAnyH_take (i := 2) (oi := ⟨_, _, _, _, _, _⟩) (v := ?v28) rfl (by kernel_rfl) (by kernel_rfl) (by kernel_rfl) (fun _ _ _ h => h) ?y28 hS ?_
  case y28 => first | (refine Or.inr ⟨by rfl, ?_⟩; with_reducible rfl) | (refine Or.inl ⟨by rfl, ?_⟩; intro wS hSw; obtain ⟨v0, v1, v2, v3, v4, v5, v6, v7, v8⟩ := nine_box ((hSw.block _ (lt_of_block H1.out)).trans H1.out); obtain ⟨-, -, -, -, -, t5, -⟩ := (HT.out.later hSw).cells; rw [HWv.out, ← HTb.out] at t5; have b0 := HBy.out wS (HT.out.later hSw).bel; go_simp; try with_reducible rfl)
  simp only [Act.put, List.setIfInBounds_toArray, List.set_cons_zero, List.set_cons_succ]
  refine wpAnyH_take (i := 3) (oi := ⟨_, _, _, _, _, _⟩) (v := ?v29) rfl (by kernel_rfl) (by kernel_rfl) (by kernel_rfl) (fun _ _ _ h => h) ?y29 hS ?_
  case y29 => first | (refine Or.inr ⟨by rfl, ?_⟩; with_reducible rfl) | (refine Or.inl ⟨by rfl, ?_⟩; intro wS hSw; obtain ⟨v0, v1, v2, v3, v4, v5, v6, v7, v8⟩ := nine_box ((hSw.block _ (lt_of_block H1.out)).trans H1.out); obtain ⟨-, -, -, -, -, t5, -⟩ := (HT.out.later hSw).cells; rw [HWv.out, ← HTb.out] at t5; have b0 := HBy.out wS (HT.out.later hSw).bel; go_simp; try with_reducible rfl)
  simp only [Act.put, List.setIfInBounds_toArray, List.set_cons_zero, List.set_cons_succ]
  refine wpAnyH_take (i := 4) (oi := ⟨_, _, _, _, _, _⟩) (v := ?v30) rfl (by kernel_rfl) (by kernel_rfl) (by kernel_rfl) (fun _ _ _ h => h) ?y30 hS ?_
  case y30 => first | (refine Or.inr ⟨by rfl, ?_⟩; with_reducible rfl) | (refine Or.inl ⟨by rfl, ?_⟩; intro wS hSw; obtain ⟨v0, v1, v2, v3, v4, v5, v6, v7, v8⟩ := nine_box ((hSw.block _ (lt_of_block H1.out)).trans H1.out); obtain ⟨-, -, -, -, -, t5, -⟩ := (HT.out.later hSw).cells; rw [HWv.out, ← HTb.out] at t5; have b0 := HBy.out wS (HT.out.later hSw).bel; go_simp; try with_reducible rfl)
  simp only [Act.put, List.setIfInBounds_toArray, List.set_cons_zero, List.set_cons_succ]
  refine wpAnyH_take (i := 5) (oi := ⟨_, _, _, _, _, _⟩) (v := ?v31) rfl (by kernel_rfl) (by kernel_rfl) (by kernel_rfl) (fun _ _ _ h => h) ?y31 hS ?_
  case y31 => first | (refine Or.inr ⟨by rfl, ?_⟩; with_reducible rfl) | (refine Or.inl ⟨by rfl, ?_⟩; intro wS hSw; obtain ⟨v0, v1, v2, v3, v4, v5, v6, v7, v8⟩ := nine_box ((hSw.block _ (lt_of_block H1.out)).trans H1.out); obtain ⟨-, -, -, -, -, t5, -⟩ := (HT.out.later hSw).cells; rw [HWv.out, ← HTb.out] at t5; have b0 := HBy.out wS (HT.out.later hSw).bel; go_simp; try with_reducible rfl)
  simp only [Act.put, List.setIfInBounds_toArray, List.set_cons_zero, List.set_cons_succ]
  refine wpAnyH_take (i := 6) (oi := ⟨_, _, _, _, _, _⟩) (v := ?v32) rfl (by kernel_rfl) (by kernel_rfl) (by kernel_rfl) (fun _ _ _ h => h) ?y32 hS ?_
  case y32 => first | (refine Or.inr ⟨by rfl, ?_⟩; with_reducible rfl) | (refine Or.inl ⟨by rfl, ?_⟩; intro wS hSw; obtain ⟨v0, v1, v2, v3, v4, v5, v6, v7, v8⟩ := nine_box ((hSw.block _ (lt_of_block H1.out)).trans H1.out); obtain ⟨-, -, -, -, -, t5, -⟩ := (HT.out.later hSw).cells; rw [HWv.out, ← HTb.out] at t5; have b0 := HBy.out wS (HT.out.later hSw).bel; go_simp; try with_reducible rfl)
  simp only [Act.put, List.setIfInBounds_toArray, List.set_cons_zero, List.set_cons_succ]
  refine wpAnyH_take (i := 7) (oi := ⟨_, _, _, _, _, _⟩) (v := ?v33) rfl (by kernel_rfl) (by kernel_rfl) (by kernel_rfl) (fun _ _ _ h => h) ?y33 hS ?_
  case y33 => first | (refine Or.inr ⟨by rfl, ?_⟩; with_reducible rfl) | (refine Or.inl ⟨by rfl, ?_⟩; intro wS hSw; obtain ⟨v0, v1, v2, v3, v4, v5, v6, v7, v8⟩ := nine_box ((hSw.block _ (lt_of_block H1.out)).trans H1.out); obtain ⟨-, -, -, -, -, t5, -⟩ := (HT.out.later hSw).cells; rw [HWv.out, ← HTb.out] at t5; have b0 := HBy.out wS (HT.out.later hSw).bel; go_simp; try with_reducible rfl)
  simp only [Act.put, List.setIfInBounds_toArray, List.set_cons_zero, List.set_cons_succ]
  refine wpAnyH_take (i := 8) (oi := ⟨_, _, _, _, _, _⟩) (v := ?v34) rfl (by kernel_rfl) (by kernel_rfl) (by kernel_rfl) (fun _ _ _ h => h) ?y34 hS ?_
  case y34 => first | (refine Or.inr ⟨by rfl, ?_⟩; with_reducible rfl) | (refine Or.inl ⟨by rfl, ?_⟩; intro wS hSw; obtain ⟨v0, v1, v2, v3, v4, v5, v6, v7, v8⟩ := nine_box ((hSw.block _ (lt_of_block H1.out)).trans H1.out); obtain ⟨-, -, -, -, -, t5, -⟩ := (HT.out.later hSw).cells; rw [HWv.out, ← HTb.out] at t5; have b0 := HBy.out wS (HT.out.later hSw).bel; go_simp; try with_reducible rfl)
  simp only [Act.put, List.setIfInBounds_toArray, List.set_cons_zero, List.set_cons_succ]
  refine wpAnyH_take (i := 9) (oi := ⟨_, _, _, _, _, _⟩) (v := ?v35) rfl (by kernel_rfl) (by kernel_rfl) (by kernel_rfl) (fun _ _ _ h => h) ?y35 hS ?_
  case y35 => first | (refine Or.inr ⟨by rfl, ?_⟩; with_reducible rfl) | (refine Or.inl ⟨by rfl, ?_⟩; intro wS hSw; obtain ⟨v0, v1, v2, v3, v4, v5, v6, v7, v8⟩ := nine_box ((hSw.block _ (lt_of_block H1.out)).trans H1.out); obtain ⟨-, -, -, -, -, t5, -⟩ := (HT.out.later hSw).cells; rw [HWv.out, ← HTb.out] at t5; have b0 := HBy.out wS (HT.out.later hSw).bel; go_simp; try with_reducible rfl)
  simp only [Act.put, List.setIfInBounds_toArray, List.set_cons_zero, List.set_cons_succ]
  refine wpAnyH_take (i := 10) (oi := ⟨_, _, _, _, _, _⟩) (v := ?v36) rfl (by kernel_rfl) (by kernel_rfl) (by kernel_rfl) (fun _ _ _ h => h) ?y36 hS ?_
  case y36 => first | (refine Or.inr ⟨by rfl, ?_⟩; with_reducible rfl) | (refine Or.inl ⟨by rfl, ?_⟩; intro wS hSw; obtain ⟨v0, v1, v2, v3, v4, v5, v6, v7, v8⟩ := nine_box ((hSw.block _ (lt_of_block H1.out)).trans H1.out); obtain ⟨-, -, -, -, -, t5, -⟩ := (HT.out.later hSw).cells; rw [HWv.out, ← HTb.out] at t5; have b0 := HBy.out wS (HT.out.later hSw).bel; go_simp; try with_reducible rfl)
  simp only [Act.put, List.setIfInBounds_toArray, List.set_cons_zero, List.set_cons_succ]
  refine wpAnyH_take (i := 11) (oi := ⟨_, _, _, _, _, _⟩) (v := ?v37) rfl (by kernel_rfl) (by kernel_rfl) (by kernel_rfl) (fun _ _ _ h => h) ?y37 hS ?_
  case y37 => first | (refine Or.inr ⟨by rfl, ?_⟩; with_reducible rfl) | (refine Or.inl ⟨by rfl, ?_⟩; intro wS hSw; obtain ⟨v0, v1, v2, v3, v4, v5, v6, v7, v8⟩ := nine_box ((hSw.block _ (lt_of_block H1.out)).trans H1.out); obtain ⟨-, -, -, -, -, t5, -⟩ := (HT.out.later hSw).cells; rw [HWv.out, ← HTb.out] at t5; have b0 := HBy.out wS (HT.out.later hSw).bel; go_simp; try with_reducible rfl)
  simp only [Act.put, List.setIfInBounds_toArray, List.set_cons_zero, List.set_cons_succ]
  refine wpAnyH_take (i := 12) (oi := ⟨_, _, _, _, _, _⟩) (v := ?v38) rfl (by kernel_rfl) (by kernel_rfl) (by kernel_rfl) (fun _ _ _ h => h) ?y38 hS ?_
  case y38 => first | (refine Or.inr ⟨by rfl, ?_⟩; with_reducible rfl) | (refine Or.inl ⟨by rfl, ?_⟩; intro wS hSw; obtain ⟨v0, v1, v2, v3, v4, v5, v6, v7, v8⟩ := nine_box ((hSw.block _ (lt_of_block H1.out)).trans H1.out); obtain ⟨-, -, -, -, -, t5, -⟩ := (HT.out.later hSw).cells; rw [HWv.out, ← HTb.out] at t5; have b0 := HBy.out wS (HT.out.later hSw).bel; go_simp; try with_reducible rfl)
  simp only [Act.put, List.setIfInBounds_toArray, List.set_cons_zero, List.set_cons_succ]
  refine wpAnyH_take (i := 13) (oi := ⟨_, _, _, _, _, _⟩) (v := ?v39) rfl (by kernel_rfl) (by kernel_rfl) (by kernel_rfl) (fun _ _ _ h => h) ?y39 hS ?_
  case y39 => first | (refine Or.inr ⟨by rfl, ?_⟩; with_reducible rfl) | (refine Or.inl ⟨by rfl, ?_⟩; intro wS hSw; obtain ⟨v0, v1, v2, v3, v4, v5, v6, v7, v8⟩ := nine_box ((hSw.block _ (lt_of_block H1.out)).trans H1.out); obtain ⟨-, -, -, -, -, t5, -⟩ := (HT.out.later hSw).cells; rw [HWv.out, ← HTb.out] at t5; have b0 := HBy.out wS (HT.out.later hSw).bel; go_simp; try with_reducible rfl)
  simp only [Act.put, List.setIfInBounds_toArray, List.set_cons_zero, List.set_cons_succ]
  refine wpAnyH_take (i := 14) (oi := ⟨_, _, _, _, _, _⟩) (v := ?v40) rfl (by kernel_rfl) (by kernel_rfl) (by kernel_rfl) (fun _ _ _ h => h) ?y40 hS ?_
  case y40 => first | (refine Or.inr ⟨by rfl, ?_⟩; with_reducible rfl) | (refine Or.inl ⟨by rfl, ?_⟩; intro wS hSw; obtain ⟨v0, v1, v2, v3, v4, v5, v6, v7, v8⟩ := nine_box ((hSw.block _ (lt_of_block H1.out)).trans H1.out); obtain ⟨-, -, -, -, -, t5, -⟩ := (HT.out.later hSw).cells; rw [HWv.out, ← HTb.out] at t5; have b0 := HBy.out wS (HT.out.later hSw).bel; go_simp; try with_reducible rfl)
  simp only [Act.put, List.setIfInBounds_toArray, List.set_cons_zero, List.set_cons_succ]
  refine wpAnyH_take (i := 15) (oi := ⟨_, _, _, _, _, _⟩) (v := ?v41) rfl (by kernel_rfl) (by kernel_rfl) (by kernel_rfl) (fun _ _ _ h => h) ?y41 hS ?_
  case y41 => first | (refine Or.inr ⟨by rfl, ?_⟩; with_reducible rfl) | (refine Or.inl ⟨by rfl, ?_⟩; intro wS hSw; obtain ⟨v0, v1, v2, v3, v4, v5, v6, v7, v8⟩ := nine_box ((hSw.block _ (lt_of_block H1.out)).trans H1.out); obtain ⟨-, -, -, -, -, t5, -⟩ := (HT.out.later hSw).cells; rw [HWv.out, ← HTb.out] at t5; have b0 := HBy.out wS (HT.out.later hSw).bel; go_simp; try with_reducible rfl)
  simp only [Act.put, List.setIfInBounds_toArray, List.set_cons_zero, List.set_cons_succ]
  refine wpAnyH_take (i := 16) (oi := ⟨_, _, _, _, _, _⟩) (v := ?v42) rfl (by kernel_rfl) (by kernel_rfl) (by kernel_rfl) (fun _ _ _ h => h) ?y42 hS ?_
  case y42 => first | (refine Or.inr ⟨by rfl, ?_⟩; with_reducible rfl) | (refine Or.inl ⟨by rfl, ?_⟩; intro wS hSw; obtain ⟨v0, v1, v2, v3, v4, v5, v6, v7, v8⟩ := nine_box ((hSw.block _ (lt_of_block H1.out)).trans H1.out); obtain ⟨-, -, -, -, -, t5, -⟩ := (HT.out.later hSw).cells; rw [HWv.out, ← HTb.out] at t5; have b0 := HBy.out wS (HT.out.later hSw).bel; go_simp; try with_reducible rfl)
  simp only [Act.put, List.setIfInBounds_toArray, List.set_cons_zero, List.set_cons_succ]
  refine wpAnyH_take (i := 17) (oi := ⟨_, _, _, _, _, _⟩) (v := ?v43) rfl (by kernel_rfl) (by kernel_rfl) (by kernel_rfl) (fun _ _ _ h => h) ?y43 hS ?_
  case y43 => first | (refine Or.inr ⟨by rfl, ?_⟩; with_reducible rfl) | (refine Or.inl ⟨by rfl, ?_⟩; intro wS hSw; obtain ⟨v0, v1, v2, v3, v4, v5, v6, v7, v8⟩ := nine_box ((hSw.block _ (lt_of_block H1.out)).trans H1.out); obtain ⟨-, -, -, -, -, t5, -⟩ := (HT.out.later hSw).cells; rw [HWv.out, ← HTb.out] at t5; have b0 := HBy.out wS (HT.out.later hSw).bel; go_simp; try with_reducible rfl)
  simp only [Act.put, List.setIfInBounds_toArray, List.set_cons_zero, List.set_cons_succ]
  refine wpAnyH_take (i := 18) (oi := ⟨_, _, _, _, _, _⟩) (v := ?v44) rfl (by kernel_rfl) (by kernel_rfl) (by kernel_rfl) (fun _ _ _ h => h) ?y44 hS ?_
  case y44 => first | (refine Or.inr ⟨by rfl, ?_⟩; with_reducible rfl) | (refine Or.inl ⟨by rfl, ?_⟩; intro wS hSw; obtain ⟨v0, v1, v2, v3, v4, v5, v6, v7, v8⟩ := nine_box ((hSw.block _ (lt_of_block H1.out)).trans H1.out); obtain ⟨-, -, -, -, -, t5, -⟩ := (HT.out.later hSw).cells; rw [HWv.out, ← HTb.out] at t5; have b0 := HBy.out wS (HT.out.later hSw).bel; go_simp; try with_reducible rfl)
  simp only [Act.put, List.setIfInBounds_toArray, List.set_cons_zero, List.set_cons_succ]
  refine wpAnyH_take (i := 19) (oi := ⟨_, _, _, _, _, _⟩) (v := ?v45) rfl (by kernel_rfl) (by kernel_rfl) (by kernel_rfl) (fun _ _ _ h => h) ?y45 hS ?_
  case y45 => first | (refine Or.inr ⟨by rfl, ?_⟩; with_reducible rfl) | (refine Or.inl ⟨by rfl, ?_⟩; intro wS hSw; obtain ⟨v0, v1, v2, v3, v4, v5, v6, v7, v8⟩ := nine_box ((hSw.block _ (lt_of_block H1.out)).trans H1.out); obtain ⟨-, -, -, -, -, t5, -⟩ := (HT.out.later hSw).cells; rw [HWv.out, ← HTb.out] at t5; have b0 := HBy.out wS (HT.out.later hSw).bel; go_simp; try with_reducible rfl)
  simp only [Act.put, List.setIfInBounds_toArray, List.set_cons_zero, List.set_cons_succ]
  refine wpAnyH_take (i := 20) (oi := ⟨_, _, _, _, _, _⟩) (v := ?v46) rfl (by kernel_rfl) (by kernel_rfl) (by kernel_rfl) (fun _ _ _ h => h) ?y46 hS ?_
  case y46 => first | (refine Or.inr ⟨by rfl, ?_⟩; with_reducible rfl) | (refine Or.inl ⟨by rfl, ?_⟩; intro wS hSw; obtain ⟨v0, v1, v2, v3, v4, v5, v6, v7, v8⟩ := nine_box ((hSw.block _ (lt_of_block H1.out)).trans H1.out); obtain ⟨-, -, -, -, -, t5, -⟩ := (HT.out.later hSw).cells; rw [HWv.out, ← HTb.out] at t5; have b0 := HBy.out wS (HT.out.later hSw).bel; go_simp; try with_reducible rfl)
  simp only [Act.put, List.setIfInBounds_toArray, List.set_cons_zero, List.set_cons_succ]
  refine wpAnyH_take (i := 21) (oi := ⟨_, _, _, _, _, _⟩) (v := ?v47) rfl (by kernel_rfl) (by kernel_rfl) (by kernel_rfl) (fun _ _ _ h => h) ?y47 hS ?_
  case y47 => first | (refine Or.inr ⟨by rfl, ?_⟩; with_reducible rfl) | (refine Or.inl ⟨by rfl, ?_⟩; intro wS hSw; obtain ⟨v0, v1, v2, v3, v4, v5, v6, v7, v8⟩ := nine_box ((hSw.block _ (lt_of_block H1.out)).trans H1.out); obtain ⟨-, -, -, -, -, t5, -⟩ := (HT.out.later hSw).cells; rw [HWv.out, ← HTb.out] at t5; have b0 := HBy.out wS (HT.out.later hSw).bel; go_simp; try with_reducible rfl)
  simp only [Act.put, List.setIfInBounds_toArray, List.set_cons_zero, List.set_cons_succ]
  refine wpAnyH_take (i := 22) (oi := ⟨_, _, _, _, _, _⟩) (v := ?v48) rfl (by kernel_rfl) (by kernel_rfl) (by kernel_rfl) (fun _ _ _ h => h) ?y48 hS ?_
  case y48 => first | (refine Or.inr ⟨by rfl, ?_⟩; with_reducible rfl) | (refine Or.inl ⟨by rfl, ?_⟩; intro wS hSw; obtain ⟨v0, v1, v2, v3, v4, v5, v6, v7, v8⟩ := nine_box ((hSw.block _ (lt_of_block H1.out)).trans H1.out); obtain ⟨-, -, -, -, -, t5, -⟩ := (HT.out.later hSw).cells; rw [HWv.out, ← HTb.out] at t5; have b0 := HBy.out wS (HT.out.later hSw).bel; go_simp; try with_reducible rfl)
  simp only [Act.put, List.setIfInBounds_toArray, List.set_cons_zero, List.set_cons_succ]
  refine wpAnyH_take (i := 23) (oi := ⟨_, _, _, _, _, _⟩) (v := ?v49) rfl (by kernel_rfl) (by kernel_rfl) (by kernel_rfl) (fun _ _ _ h => h) ?y49 hS ?_
  case y49 => first | (refine Or.inr ⟨by rfl, ?_⟩; with_reducible rfl) | (refine Or.inl ⟨by rfl, ?_⟩; intro wS hSw; obtain ⟨v0, v1, v2, v3, v4, v5, v6, v7, v8⟩ := nine_box ((hSw.block _ (lt_of_block H1.out)).trans H1.out); obtain ⟨-, -, -, -, -, t5, -⟩ := (HT.out.later hSw).cells; rw [HWv.out, ← HTb.out] at t5; have b0 := HBy.out wS (HT.out.later hSw).bel; go_simp; try with_reducible rfl)
  simp only [Act.put, List.setIfInBounds_toArray, List.set_cons_zero, List.set_cons_succ]
  refine wpAnyH_take (i := 24) (oi := ⟨_, _, _, _, _, _⟩) (v := ?v50) rfl (by kernel_rfl) (by kernel_rfl) (by kernel_rfl) (fun _ _ _ h => h) ?y50 hS ?_
  case y50 => first | (refine Or.inr ⟨by rfl, ?_⟩; with_reducible rfl) | (refine Or.inl ⟨by rfl, ?_⟩; intro wS hSw; obtain ⟨v0, v1, v2, v3, v4, v5, v6, v7, v8⟩ := nine_box ((hSw.block _ (lt_of_block H1.out)).trans H1.out); obtain ⟨-, -, -, -, -, t5, -⟩ := (HT.out.later hSw).cells; rw [HWv.out, ← HTb.out] at t5; have b0 := HBy.out wS (HT.out.later hSw).bel; go_simp; try with_reducible rfl)
  simp only [Act.put, List.setIfInBounds_toArray, List.set_cons_zero, List.set_cons_succ]
  refine wpAnyH_done (by kernel_rfl) ?_ _
  have HSf := Lib.hid hS
  clear hS
  go_wp2_with fail
  refine (upTo_any ((p : Int) + 1) _).mono ?_
  rintro e w1 ⟨rfl, hb1⟩
  have hu1 := HSf.out.trans (hb1.mono HSf.out.size)
  have HT1 := Lib.hid (HT.out.later hu1)
  have HK1 := Lib.hid (KeepT.tra HK.out (KeepT.ofBelow hu1))
  have H21 := Lib.hid ((hu1.block _ (lt_of_block H2.out)).trans H2.out)
  clear hb1 hu1
  obtain ⟨d0, d1, d2, d3, d4⟩ := five_box H21.out
  obtain ⟨g0, g1, g2, g3, g4⟩ := five_frz H21.out
  go_wp2
  obtain ⟨k5, hk5⟩ := set5 H21.out (.bool true) (.int .i64 ((p : Int) + 1)) (.int .i64 (-1)) (.int .i64 0) (.slice none 0 0)
  obtain ⟨q0, q1, q2, q3, q4⟩ := five_box k5
  have hxw : w.heap.size ≤ X + 1 := by have := HX.out; omega
  exact bodyPost_ret (v := .agg #[.bool true, .int .i64 ((p : Int) + 1), .int .i64 (-1), .int .i64 0, .slice none 0 0]) (by simp [results, Tryz.f127, go_sem, q0, q1, q2, q3, q4]) rfl ⟨⟨_, rfl, _, rfl, TwIn.nil _⟩, HT1.out.res H21.out (Nat.le_trans H.out.base hxw) hk5, HK1.out.endAt hxw hk5⟩
set_option maxRecDepth 100000 in
set_option maxHeartbeats 4000000 in
theorem one_C {C : Cx} (hC : CxOk C) {x : Nd} (hx : x ∈ C.N) (p : Nat) (F : Live) (st : Ss) (w : World) (h : TrS C F st w) (hk : x.kind = 3) (hp : p < C.W.length) :
    Calls Tryz.prog 127 #[.pointer (some ⟨C.tb, 0, none⟩), ndv x, .int .i64 p] w (Post C F (if clsOf x (C.W[p].toNat) = true then .hit (upTo (p + 1)) else .miss p) st w) := by
  have H := Lib.hid h
  have hxw := hC.gr.wf x hx
  have hW := hC.hW
  obtain ⟨⟨ra, rc, hrv⟩, ⟨na, nc, hnv⟩, ⟨wa, wc, hwv⟩⟩ := hC.shape
  obtain ⟨ka, kc, hkv⟩ := hxw.kv
  obtain ⟨b, off, rfl, hby⟩ := hC.byte hwv hp
  have HBy := Lib.hid hby
  clear hby
  have HCw := Lib.hid (cls_words x hxw)
  obtain ⟨q, hq⟩ : ∃ q, q = clsOf x (C.W[p].toNat) := ⟨_, rfl⟩
  rw [← hq]
  obtain ⟨cl, hcl⟩ : ∃ cl, cl = clsOf x := ⟨_, rfl⟩
  rw [← hcl] at hq HCw
  obtain ⟨c, hc⟩ : ∃ c, c = C.W[p] := ⟨_, rfl⟩
  rw [← hc] at hq HBy
  have HHas := Lib.hid (fun wq => class_Has wq cl c)
  rw [← hq] at HHas
  unfold clv at HHas
  rw [HCw.out] at HHas
  clear hq hcl hc
  obtain ⟨tb, htb⟩ : ∃ tb, tb = C.tb := ⟨_, rfl⟩
  have HTb := Lib.hid htb
  rw [← htb]
  obtain ⟨wl, hwl⟩ : ∃ wl, wl = C.W.length := ⟨_, rfl⟩
  have HWl := Lib.hid hwl
  rw [← hwl] at hwv hp hW
  have HWv := Lib.hid hwv
  obtain ⟨kind, c0, c1, c2, c3, text, rule, level, kids, kv⟩ := x
  simp only at hkv hk HHas
  subst hkv
  unfold ndv
  simp only
  obtain ⟨kn, hkn⟩ : ∃ kn, kn = kids.length := ⟨_, rfl⟩
  have HKn := Lib.hid hkn
  rw [← hkn]
  clear hkn
  subst hk
  have d0 : ((p : Int) == (wl : Int)) = false := by simp; omega
  have d1 : ¬ (p : Int) = (wl : Int) := by omega
  have d2 : (p : Int) < (wl : Int) := by omega
  have hw1 : IntKind.i64.wrap ((p : Int) + 1) = ((p + 1 : Nat) : Int) := by rw [IntWalk.i64_in _ (by omega)]; omega
  clear h hC hx hxw hW hrv hnv hwv htb hwl
  go_enter Tryz.func127, Tryz.ntmps127
  go_upto_region 1 with (fail)
  refine gen_world (S := fun u => Below w.heap.size w u ∧ u.heap[w.heap.size]? = some (.cells #[.int .i64 3, .int .u64 c0, .int .u64 c1, .int .u64 c2, .int .u64 c3, .string text, .int .i64 rule, .int .i64 level, .slice ka kn kc] 60 (0, 0)) ∧ u.heap[w.heap.size + 1]? = some (.cells #[.bool false, .int .i64 0, .int .i64 0, .int .i64 0, .slice none 0 0] 73 (0, 0))) (two_new w _ _) (fun u hu => ?_)
  obtain ⟨hb, h1, h2⟩ := hu
  have HB := Lib.hid hb
  have H1 := Lib.hid h1
  have H2 := Lib.hid h2
  obtain ⟨X, hX⟩ : ∃ X, X = w.heap.size := ⟨_, rfl⟩
  rw [← hX] at H1 H2 ⊢
  have HX := Lib.hid hX
  have HT := Lib.hid (H.out.later hb)
  have HK := Lib.hid (KeepT.ofBelow hb : KeepT C.w0.heap.size TTm true w u)
  clear hb h1 h2 hX
  refine wp_region_held_drew (S := fun z => Below u.heap.size u z) (by kernel_rfl) (Below.refl u.heap.size u).drew (fun hS => ?_)
  refine wpAnyH_take (i := 0) (oi := ⟨_, _, _, _, _, _⟩) (v := ?v51) rfl (by kernel_rfl) (by kernel_rfl) (by kernel_rfl) (fun _ _ _ h => h) ?y51 hS ?_
  case y51 => first | (refine Or.inr ⟨by rfl, ?_⟩; with_reducible rfl) | (refine Or.inl ⟨by rfl, ?_⟩; intro wS hSw; obtain ⟨v0, v1, v2, v3, v4, v5, v6, v7, v8⟩ := nine_box ((hSw.block _ (lt_of_block H1.out)).trans H1.out); obtain ⟨-, -, -, -, -, t5, -⟩ := (HT.out.later hSw).cells; rw [HWv.out, ← HTb.out] at t5; have b0 := HBy.out wS (HT.out.later hSw).bel; go_simp; try with_reducible rfl)
  simp only [Act.put, List.setIfInBounds_toArray, List.set_cons_zero, List.set_cons_succ]
  refine wpAnyH_take (i := 1) (oi := ⟨_, _, _, _, _, _⟩) (v := ?v52) rfl (by kernel_rfl) (by kernel_rfl) (by kernel_rfl) (fun _ _ _ h => h) ?y52 hS ?_
  case y52 => first | (refine Or.inr ⟨by rfl, ?_⟩; with_reducible rfl) | (refine Or.inl ⟨by rfl, ?_⟩; intro wS hSw; obtain ⟨v0, v1, v2, v3, v4, v5, v6, v7, v8⟩ := nine_box ((hSw.block _ (lt_of_block H1.out)).trans H1.out); obtain ⟨-, -, -, -, -, t5, -⟩ := (HT.out.later hSw).cells; rw [HWv.out, ← HTb.out] at t5; have b0 := HBy.out wS (HT.out.later hSw).bel; go_simp; try with_reducible rfl)
  simp only [Act.put, List.setIfInBounds_toArray, List.set_cons_zero, List.set_cons_succ]
  refine wpAnyH_take (i := 2) (oi := ⟨_, _, _, _, _, _⟩) (v := ?v53) rfl (by kernel_rfl) (by kernel_rfl) (by kernel_rfl) (fun _ _ _ h => h) ?y53 hS ?_
  case y53 => first | (refine Or.inr ⟨by rfl, ?_⟩; with_reducible rfl) | (refine Or.inl ⟨by rfl, ?_⟩; intro wS hSw; obtain ⟨v0, v1, v2, v3, v4, v5, v6, v7, v8⟩ := nine_box ((hSw.block _ (lt_of_block H1.out)).trans H1.out); obtain ⟨-, -, -, -, -, t5, -⟩ := (HT.out.later hSw).cells; rw [HWv.out, ← HTb.out] at t5; have b0 := HBy.out wS (HT.out.later hSw).bel; go_simp; try with_reducible rfl)
  simp only [Act.put, List.setIfInBounds_toArray, List.set_cons_zero, List.set_cons_succ]
  refine wpAnyH_take (i := 3) (oi := ⟨_, _, _, _, _, _⟩) (v := ?v54) rfl (by kernel_rfl) (by kernel_rfl) (by kernel_rfl) (fun _ _ _ h => h) ?y54 hS ?_
  case y54 => first | (refine Or.inr ⟨by rfl, ?_⟩; with_reducible rfl) | (refine Or.inl ⟨by rfl, ?_⟩; intro wS hSw; obtain ⟨v0, v1, v2, v3, v4, v5, v6, v7, v8⟩ := nine_box ((hSw.block _ (lt_of_block H1.out)).trans H1.out); obtain ⟨-, -, -, -, -, t5, -⟩ := (HT.out.later hSw).cells; rw [HWv.out, ← HTb.out] at t5; have b0 := HBy.out wS (HT.out.later hSw).bel; go_simp; try with_reducible rfl)
  simp only [Act.put, List.setIfInBounds_toArray, List.set_cons_zero, List.set_cons_succ]
  refine wpAnyH_take (i := 4) (oi := ⟨_, _, _, _, _, _⟩) (v := ?v55) rfl (by kernel_rfl) (by kernel_rfl) (by kernel_rfl) (fun _ _ _ h => h) ?y55 hS ?_
  case y55 => first | (refine Or.inr ⟨by rfl, ?_⟩; with_reducible rfl) | (refine Or.inl ⟨by rfl, ?_⟩; intro wS hSw; obtain ⟨v0, v1, v2, v3, v4, v5, v6, v7, v8⟩ := nine_box ((hSw.block _ (lt_of_block H1.out)).trans H1.out); obtain ⟨-, -, -, -, -, t5, -⟩ := (HT.out.later hSw).cells; rw [HWv.out, ← HTb.out] at t5; have b0 := HBy.out wS (HT.out.later hSw).bel; go_simp; try with_reducible rfl)
  simp only [Act.put, List.setIfInBounds_toArray, List.set_cons_zero, List.set_cons_succ]
  refine wpAnyH_take (i := 5) (oi := ⟨_, _, _, _, _, _⟩) (v := ?v56) rfl (by kernel_rfl) (by kernel_rfl) (by kernel_rfl) (fun _ _ _ h => h) ?y56 hS ?_
  case y56 => first | (refine Or.inr ⟨by rfl, ?_⟩; with_reducible rfl) | (refine Or.inl ⟨by rfl, ?_⟩; intro wS hSw; obtain ⟨v0, v1, v2, v3, v4, v5, v6, v7, v8⟩ := nine_box ((hSw.block _ (lt_of_block H1.out)).trans H1.out); obtain ⟨-, -, -, -, -, t5, -⟩ := (HT.out.later hSw).cells; rw [HWv.out, ← HTb.out] at t5; have b0 := HBy.out wS (HT.out.later hSw).bel; go_simp; try with_reducible rfl)
  simp only [Act.put, List.setIfInBounds_toArray, List.set_cons_zero, List.set_cons_succ]
  refine wpAnyH_take (i := 6) (oi := ⟨_, _, _, _, _, _⟩) (v := ?v57) rfl (by kernel_rfl) (by kernel_rfl) (by kernel_rfl) (fun _ _ _ h => h) ?y57 hS ?_
  case y57 => first | (refine Or.inr ⟨by rfl, ?_⟩; with_reducible rfl) | (refine Or.inl ⟨by rfl, ?_⟩; intro wS hSw; obtain ⟨v0, v1, v2, v3, v4, v5, v6, v7, v8⟩ := nine_box ((hSw.block _ (lt_of_block H1.out)).trans H1.out); obtain ⟨-, -, -, -, -, t5, -⟩ := (HT.out.later hSw).cells; rw [HWv.out, ← HTb.out] at t5; have b0 := HBy.out wS (HT.out.later hSw).bel; go_simp; try with_reducible rfl)
  simp only [Act.put, List.setIfInBounds_toArray, List.set_cons_zero, List.set_cons_succ]
  refine wpAnyH_take (i := 7) (oi := ⟨_, _, _, _, _, _⟩) (v := ?v58) rfl (by kernel_rfl) (by kernel_rfl) (by kernel_rfl) (fun _ _ _ h => h) ?y58 hS ?_
  case y58 => first | (refine Or.inr ⟨by rfl, ?_⟩; with_reducible rfl) | (refine Or.inl ⟨by rfl, ?_⟩; intro wS hSw; obtain ⟨v0, v1, v2, v3, v4, v5, v6, v7, v8⟩ := nine_box ((hSw.block _ (lt_of_block H1.out)).trans H1.out); obtain ⟨-, -, -, -, -, t5, -⟩ := (HT.out.later hSw).cells; rw [HWv.out, ← HTb.out] at t5; have b0 := HBy.out wS (HT.out.later hSw).bel; go_simp; try with_reducible rfl)
  simp only [Act.put, List.setIfInBounds_toArray, List.set_cons_zero, List.set_cons_succ]
  refine wpAnyH_take (i := 8) (oi := ⟨_, _, _, _, _, _⟩) (v := ?v59) rfl (by kernel_rfl) (by kernel_rfl) (by kernel_rfl) (fun _ _ _ h => h) ?y59 hS ?_
  case y59 => first | (refine Or.inr ⟨by rfl, ?_⟩; with_reducible rfl) | (refine Or.inl ⟨by rfl, ?_⟩; intro wS hSw; obtain ⟨v0, v1, v2, v3, v4, v5, v6, v7, v8⟩ := nine_box ((hSw.block _ (lt_of_block H1.out)).trans H1.out); obtain ⟨-, -, -, -, -, t5, -⟩ := (HT.out.later hSw).cells; rw [HWv.out, ← HTb.out] at t5; have b0 := HBy.out wS (HT.out.later hSw).bel; go_simp; try with_reducible rfl)
  simp only [Act.put, List.setIfInBounds_toArray, List.set_cons_zero, List.set_cons_succ]
  refine wpAnyH_take (i := 9) (oi := ⟨_, _, _, _, _, _⟩) (v := ?v60) rfl (by kernel_rfl) (by kernel_rfl) (by kernel_rfl) (fun _ _ _ h => h) ?y60 hS ?_
  case y60 => first | (refine Or.inr ⟨by rfl, ?_⟩; with_reducible rfl) | (refine Or.inl ⟨by rfl, ?_⟩; intro wS hSw; obtain ⟨v0, v1, v2, v3, v4, v5, v6, v7, v8⟩ := nine_box ((hSw.block _ (lt_of_block H1.out)).trans H1.out); obtain ⟨-, -, -, -, -, t5, -⟩ := (HT.out.later hSw).cells; rw [HWv.out, ← HTb.out] at t5; have b0 := HBy.out wS (HT.out.later hSw).bel; go_simp; try with_reducible rfl)
  simp only [Act.put, List.setIfInBounds_toArray, List.set_cons_zero, List.set_cons_succ]
  refine wpAnyH_take (i := 10) (oi := ⟨_, _, _, _, _, _⟩) (v := ?v61) rfl (by kernel_rfl) (by kernel_rfl) (by kernel_rfl) (fun _ _ _ h => h) ?y61 hS ?_
  case y61 => first | (refine Or.inr ⟨by rfl, ?_⟩; with_reducible rfl) | (refine Or.inl ⟨by rfl, ?_⟩; intro wS hSw; obtain ⟨v0, v1, v2, v3, v4, v5, v6, v7, v8⟩ := nine_box ((hSw.block _ (lt_of_block H1.out)).trans H1.out); obtain ⟨-, -, -, -, -, t5, -⟩ := (HT.out.later hSw).cells; rw [HWv.out, ← HTb.out] at t5; have b0 := HBy.out wS (HT.out.later hSw).bel; go_simp; try with_reducible rfl)
  simp only [Act.put, List.setIfInBounds_toArray, List.set_cons_zero, List.set_cons_succ]
  refine wpAnyH_take (i := 11) (oi := ⟨_, _, _, _, _, _⟩) (v := ?v62) rfl (by kernel_rfl) (by kernel_rfl) (by kernel_rfl) (fun _ _ _ h => h) ?y62 hS ?_
  case y62 => first | (refine Or.inr ⟨by rfl, ?_⟩; with_reducible rfl) | (refine Or.inl ⟨by rfl, ?_⟩; intro wS hSw; obtain ⟨v0, v1, v2, v3, v4, v5, v6, v7, v8⟩ := nine_box ((hSw.block _ (lt_of_block H1.out)).trans H1.out); obtain ⟨-, -, -, -, -, t5, -⟩ := (HT.out.later hSw).cells; rw [HWv.out, ← HTb.out] at t5; have b0 := HBy.out wS (HT.out.later hSw).bel; go_simp; try with_reducible rfl)
  simp only [Act.put, List.setIfInBounds_toArray, List.set_cons_zero, List.set_cons_succ]
  refine wpAnyH_take (i := 12) (oi := ⟨_, _, _, _, _, _⟩) (v := ?v63) rfl (by kernel_rfl) (by kernel_rfl) (by kernel_rfl) (fun _ _ _ h => h) ?y63 hS ?_
  case y63 => first | (refine Or.inr ⟨by rfl, ?_⟩; with_reducible rfl) | (refine Or.inl ⟨by rfl, ?_⟩; intro wS hSw; obtain ⟨v0, v1, v2, v3, v4, v5, v6, v7, v8⟩ := nine_box ((hSw.block _ (lt_of_block H1.out)).trans H1.out); obtain ⟨-, -, -, -, -, t5, -⟩ := (HT.out.later hSw).cells; rw [HWv.out, ← HTb.out] at t5; have b0 := HBy.out wS (HT.out.later hSw).bel; go_simp; try with_reducible rfl)
  simp only [Act.put, List.setIfInBounds_toArray, List.set_cons_zero, List.set_cons_succ]
  refine wpAnyH_take (i := 13) (oi := ⟨_, _, _, _, _, _⟩) (v := ?v64) rfl (by kernel_rfl) (by kernel_rfl) (by kernel_rfl) (fun _ _ _ h => h) ?y64 hS ?_
  case y64 => first | (refine Or.inr ⟨by rfl, ?_⟩; with_reducible rfl) | (refine Or.inl ⟨by rfl, ?_⟩; intro wS hSw; obtain ⟨v0, v1, v2, v3, v4, v5, v6, v7, v8⟩ := nine_box ((hSw.block _ (lt_of_block H1.out)).trans H1.out); obtain ⟨-, -, -, -, -, t5, -⟩ := (HT.out.later hSw).cells; rw [HWv.out, ← HTb.out] at t5; have b0 := HBy.out wS (HT.out.later hSw).bel; go_simp; try with_reducible rfl)
  simp only [Act.put, List.setIfInBounds_toArray, List.set_cons_zero, List.set_cons_succ]
  refine wpAnyH_take (i := 14) (oi := ⟨_, _, _, _, _, _⟩) (v := ?v65) rfl (by kernel_rfl) (by kernel_rfl) (by kernel_rfl) (fun _ _ _ h => h) ?y65 hS ?_
  case y65 => first | (refine Or.inr ⟨by rfl, ?_⟩; with_reducible rfl) | (refine Or.inl ⟨by rfl, ?_⟩; intro wS hSw; obtain ⟨v0, v1, v2, v3, v4, v5, v6, v7, v8⟩ := nine_box ((hSw.block _ (lt_of_block H1.out)).trans H1.out); obtain ⟨-, -, -, -, -, t5, -⟩ := (HT.out.later hSw).cells; rw [HWv.out, ← HTb.out] at t5; have b0 := HBy.out wS (HT.out.later hSw).bel; go_simp; try with_reducible rfl)
  simp only [Act.put, List.setIfInBounds_toArray, List.set_cons_zero, List.set_cons_succ]
  refine wpAnyH_take (i := 15) (oi := ⟨_, _, _, _, _, _⟩) (v := ?v66) rfl (by kernel_rfl) (by kernel_rfl) (by kernel_rfl) (fun _ _ _ h => h) ?y66 hS ?_
  case y66 => first | (refine Or.inr ⟨by rfl, ?_⟩; with_reducible rfl) | (refine Or.inl ⟨by rfl, ?_⟩; intro wS hSw; obtain ⟨v0, v1, v2, v3, v4, v5, v6, v7, v8⟩ := nine_box ((hSw.block _ (lt_of_block H1.out)).trans H1.out); obtain ⟨-, -, -, -, -, t5, -⟩ := (HT.out.later hSw).cells; rw [HWv.out, ← HTb.out] at t5; have b0 := HBy.out wS (HT.out.later hSw).bel; go_simp; try with_reducible rfl)
  simp only [Act.put, List.setIfInBounds_toArray, List.set_cons_zero, List.set_cons_succ]
  refine wpAnyH_take (i := 16) (oi := ⟨_, _, _, _, _, _⟩) (v := ?v67) rfl (by kernel_rfl) (by kernel_rfl) (by kernel_rfl) (fun _ _ _ h => h) ?y67 hS ?_
  case y67 => first | (refine Or.inr ⟨by rfl, ?_⟩; with_reducible rfl) | (refine Or.inl ⟨by rfl, ?_⟩; intro wS hSw; obtain ⟨v0, v1, v2, v3, v4, v5, v6, v7, v8⟩ := nine_box ((hSw.block _ (lt_of_block H1.out)).trans H1.out); obtain ⟨-, -, -, -, -, t5, -⟩ := (HT.out.later hSw).cells; rw [HWv.out, ← HTb.out] at t5; have b0 := HBy.out wS (HT.out.later hSw).bel; go_simp; try with_reducible rfl)
  simp only [Act.put, List.setIfInBounds_toArray, List.set_cons_zero, List.set_cons_succ]
  refine wpAnyH_take (i := 17) (oi := ⟨_, _, _, _, _, _⟩) (v := ?v68) rfl (by kernel_rfl) (by kernel_rfl) (by kernel_rfl) (fun _ _ _ h => h) ?y68 hS ?_
  case y68 => first | (refine Or.inr ⟨by rfl, ?_⟩; with_reducible rfl) | (refine Or.inl ⟨by rfl, ?_⟩; intro wS hSw; obtain ⟨v0, v1, v2, v3, v4, v5, v6, v7, v8⟩ := nine_box ((hSw.block _ (lt_of_block H1.out)).trans H1.out); obtain ⟨-, -, -, -, -, t5, -⟩ := (HT.out.later hSw).cells; rw [HWv.out, ← HTb.out] at t5; have b0 := HBy.out wS (HT.out.later hSw).bel; go_simp; try with_reducible rfl)
  simp only [Act.put, List.setIfInBounds_toArray, List.set_cons_zero, List.set_cons_succ]
  refine wpAnyH_take (i := 18) (oi := ⟨_, _, _, _, _, _⟩) (v := ?v69) rfl (by kernel_rfl) (by kernel_rfl) (by kernel_rfl) (fun _ _ _ h => h) ?y69 hS ?_
  case y69 => first | (refine Or.inr ⟨by rfl, ?_⟩; with_reducible rfl) | (refine Or.inl ⟨by rfl, ?_⟩; intro wS hSw; obtain ⟨v0, v1, v2, v3, v4, v5, v6, v7, v8⟩ := nine_box ((hSw.block _ (lt_of_block H1.out)).trans H1.out); obtain ⟨-, -, -, -, -, t5, -⟩ := (HT.out.later hSw).cells; rw [HWv.out, ← HTb.out] at t5; have b0 := HBy.out wS (HT.out.later hSw).bel; go_simp; try with_reducible rfl)
  simp only [Act.put, List.setIfInBounds_toArray, List.set_cons_zero, List.set_cons_succ]
  refine wpAnyH_take (i := 19) (oi := ⟨_, _, _, _, _, _⟩) (v := ?v70) rfl (by kernel_rfl) (by kernel_rfl) (by kernel_rfl) (fun _ _ _ h => h) ?y70 hS ?_
  case y70 => first | (refine Or.inr ⟨by rfl, ?_⟩; with_reducible rfl) | (refine Or.inl ⟨by rfl, ?_⟩; intro wS hSw; obtain ⟨v0, v1, v2, v3, v4, v5, v6, v7, v8⟩ := nine_box ((hSw.block _ (lt_of_block H1.out)).trans H1.out); obtain ⟨-, -, -, -, -, t5, -⟩ := (HT.out.later hSw).cells; rw [HWv.out, ← HTb.out] at t5; have b0 := HBy.out wS (HT.out.later hSw).bel; go_simp; try with_reducible rfl)
  simp only [Act.put, List.setIfInBounds_toArray, List.set_cons_zero, List.set_cons_succ]
  refine wpAnyH_take (i := 20) (oi := ⟨_, _, _, _, _, _⟩) (v := ?v71) rfl (by kernel_rfl) (by kernel_rfl) (by kernel_rfl) (fun _ _ _ h => h) ?y71 hS ?_
  case y71 => first | (refine Or.inr ⟨by rfl, ?_⟩; with_reducible rfl) | (refine Or.inl ⟨by rfl, ?_⟩; intro wS hSw; obtain ⟨v0, v1, v2, v3, v4, v5, v6, v7, v8⟩ := nine_box ((hSw.block _ (lt_of_block H1.out)).trans H1.out); obtain ⟨-, -, -, -, -, t5, -⟩ := (HT.out.later hSw).cells; rw [HWv.out, ← HTb.out] at t5; have b0 := HBy.out wS (HT.out.later hSw).bel; go_simp; try with_reducible rfl)
  simp only [Act.put, List.setIfInBounds_toArray, List.set_cons_zero, List.set_cons_succ]
  refine wpAnyH_ready (rs := [21]) (by kernel_rfl) (by simp) ?_
  refine AllReadyH.cons (o := ⟨_, _, _, _, _, _⟩) rfl (fun K hK => ?_) AllReadyH.nil
  go_simp
  refine (HHas.out _).mono ?_
  rintro e z ⟨rfl, hb⟩
  go_wp2_with fail
  refine hK.out _ _ (hS.trans (hb.mono hS.size)) (fun hS2 => ?_)
  have HS1 := Lib.hid (hS.trans (hb.mono hS.size))
  clear hK K hS hb hS2
  have hS := HS1.out
  try simp only [Act.put, List.setIfInBounds_toArray, List.set_cons_zero, List.set_cons_succ]
  refine wpAnyH_take (i := 22) (oi := ⟨_, _, _, _, _, _⟩) (v := ?v72) rfl (by kernel_rfl) (by kernel_rfl) (by kernel_rfl) (fun _ _ _ h => h) ?y72 hS ?_
  case y72 => first | (refine Or.inr ⟨by rfl, ?_⟩; with_reducible rfl) | (refine Or.inl ⟨by rfl, ?_⟩; intro wS hSw; obtain ⟨v0, v1, v2, v3, v4, v5, v6, v7, v8⟩ := nine_box ((hSw.block _ (lt_of_block H1.out)).trans H1.out); obtain ⟨-, -, -, -, -, t5, -⟩ := (HT.out.later hSw).cells; rw [HWv.out, ← HTb.out] at t5; have b0 := HBy.out wS (HT.out.later hSw).bel; go_simp; try with_reducible rfl)
  simp only [Act.put, List.setIfInBounds_toArray, List.set_cons_zero, List.set_cons_succ]
  refine wpAnyH_take (i := 23) (oi := ⟨_, _, _, _, _, _⟩) (v := ?v73) rfl (by kernel_rfl) (by kernel_rfl) (by kernel_rfl) (fun _ _ _ h => h) ?y73 hS ?_
  case y73 => first | (refine Or.inr ⟨by rfl, ?_⟩; with_reducible rfl) | (refine Or.inl ⟨by rfl, ?_⟩; intro wS hSw; obtain ⟨v0, v1, v2, v3, v4, v5, v6, v7, v8⟩ := nine_box ((hSw.block _ (lt_of_block H1.out)).trans H1.out); obtain ⟨-, -, -, -, -, t5, -⟩ := (HT.out.later hSw).cells; rw [HWv.out, ← HTb.out] at t5; have b0 := HBy.out wS (HT.out.later hSw).bel; go_simp; try with_reducible rfl)
  simp only [Act.put, List.setIfInBounds_toArray, List.set_cons_zero, List.set_cons_succ]
  refine wpAnyH_take (i := 24) (oi := ⟨_, _, _, _, _, _⟩) (v := ?v74) rfl (by kernel_rfl) (by kernel_rfl) (by kernel_rfl) (fun _ _ _ h => h) ?y74 hS ?_
  case y74 => first | (refine Or.inr ⟨by rfl, ?_⟩; with_reducible rfl) | (refine Or.inl ⟨by rfl, ?_⟩; intro wS hSw; obtain ⟨v0, v1, v2, v3, v4, v5, v6, v7, v8⟩ := nine_box ((hSw.block _ (lt_of_block H1.out)).trans H1.out); obtain ⟨-, -, -, -, -, t5, -⟩ := (HT.out.later hSw).cells; rw [HWv.out, ← HTb.out] at t5; have b0 := HBy.out wS (HT.out.later hSw).bel; go_simp; try with_reducible rfl)
  simp only [Act.put, List.setIfInBounds_toArray, List.set_cons_zero, List.set_cons_succ]
  refine wpAnyH_done (by kernel_rfl) ?_ _
  have HSf := Lib.hid hS
  clear hS
  cases q
  · skip
    go_wp2_with fail
    refine (miss_any (p : Int) _).mono ?_
    rintro e w1 ⟨rfl, hb1⟩
    have hu1 := HSf.out.trans (hb1.mono HSf.out.size)
    have HT1 := Lib.hid (HT.out.later hu1)
    have HK1 := Lib.hid (KeepT.tra HK.out (KeepT.ofBelow hu1))
    have H21 := Lib.hid ((hu1.block _ (lt_of_block H2.out)).trans H2.out)
    clear hb1 hu1
    obtain ⟨d0, d1, d2, d3, d4⟩ := five_box H21.out
    obtain ⟨g0, g1, g2, g3, g4⟩ := five_frz H21.out
    go_wp2
    obtain ⟨k5, hk5⟩ := set5 H21.out (.bool false) (.int .i64 0) (.int .i64 p) (.int .i64 0) (.slice none 0 0)
    obtain ⟨q0, q1, q2, q3, q4⟩ := five_box k5
    have hxw : w.heap.size ≤ X + 1 := by have := HX.out; omega
    exact bodyPost_ret (v := .agg #[.bool false, .int .i64 0, .int .i64 p, .int .i64 0, .slice none 0 0]) (by simp [results, Tryz.f127, go_sem, q0, q1, q2, q3, q4]) rfl ⟨⟨_, rfl, _, rfl, TwIn.nil _⟩, HT1.out.res H21.out (Nat.le_trans H.out.base hxw) hk5, HK1.out.endAt hxw hk5⟩
  · skip
    go_wp2_with fail
    refine (upTo_any ((p : Int) + 1) _).mono ?_
    rintro e w1 ⟨rfl, hb1⟩
    have hu1 := HSf.out.trans (hb1.mono HSf.out.size)
    have HT1 := Lib.hid (HT.out.later hu1)
    have HK1 := Lib.hid (KeepT.tra HK.out (KeepT.ofBelow hu1))
    have H21 := Lib.hid ((hu1.block _ (lt_of_block H2.out)).trans H2.out)
    clear hb1 hu1
    obtain ⟨d0, d1, d2, d3, d4⟩ := five_box H21.out
    obtain ⟨g0, g1, g2, g3, g4⟩ := five_frz H21.out
    go_wp2
    obtain ⟨k5, hk5⟩ := set5 H21.out (.bool true) (.int .i64 ((p : Int) + 1)) (.int .i64 (-1)) (.int .i64 0) (.slice none 0 0)
    obtain ⟨q0, q1, q2, q3, q4⟩ := five_box k5
    have hxw : w.heap.size ≤ X + 1 := by have := HX.out; omega
    exact bodyPost_ret (v := .agg #[.bool true, .int .i64 ((p : Int) + 1), .int .i64 (-1), .int .i64 0, .slice none 0 0]) (by simp [results, Tryz.f127, go_sem, q0, q1, q2, q3, q4]) rfl ⟨⟨_, rfl, _, rfl, TwIn.nil _⟩, HT1.out.res H21.out (Nat.le_trans H.out.base hxw) hk5, HK1.out.endAt hxw hk5⟩
theorem way_one {C : Cx} (hC : CxOk C) {f : Nat} {x : Nd} (hx : x ∈ C.N) (hkd : x.kind = 2 ∨ x.kind = 3) : WayC C f x := by
  intro p F st r st' w h hL hp hl he
  unfold nodeE at he
  rw [if_neg (by rcases hkd with h | h <;> rw [h] <;> decide), if_pos hkd] at he
  simp only [Option.some.injEq, Prod.mk.injEq] at he
  obtain ⟨rfl, rfl⟩ := he
  rw [show wayF x.kind = 127 from by unfold wayF; rw [if_neg (by rcases hkd with h | h <;> rw [h] <;> decide), if_pos hkd]]
  unfold oneAt
  by_cases hlt : p < C.W.length
  · rw [List.getElem?_eq_getElem hlt]
    simp only
    rcases hkd with hk | hk
    · rw [if_neg (by rw [hk]; simp)]
      exact one_B hC hx p F st w h hk hlt
    · have := one_C hC hx p F st w h hk hlt
      cases hq : clsOf x (C.W[p].toNat)
      · rw [hq] at this
        rw [if_pos ⟨hk, rfl⟩]
        exact this
      · rw [hq] at this
        rw [if_neg (by simp)]
        exact this
  · rw [List.getElem?_eq_none (by omega)]
    exact one_A hC hx p F st w h (by omega)
theorem text_split (W : List UInt8) : ∀ (t : List UInt8) (k p : Nat) (h : k < t.length), textAt W (t.drop k) p = if W[p]? = some t[k] then textAt W (t.drop (k + 1)) (p + 1) else .miss p := by
  intro t k p h
  rw [List.drop_eq_getElem_cons h]
  rfl
theorem str_byte (s : ByteArray) (k : Nat) (h : k < s.size) (w : World) : (Instr.index 9 (.string s) (.int .i64 k)).run Tryz.prog w = .ok (.int .u8 (s.data.toList[k]'(by simpa using h)).toNat) w := by
  rw [run_index_string _ _ _ _ _ Tryz.underlying9, dif_pos ⟨by omega, by omega⟩]
  simp
  rfl
set_option maxRecDepth 100000 in
set_option maxHeartbeats 8000000 in
theorem way_text {C : Cx} (hC : CxOk C) {f : Nat} {x : Nd} (hx : x ∈ C.N) (hkd : x.kind = 4) (hM : MatchC C f) : WayC C f x := by
  intro p F st r st' w h hL hp hl he
  unfold nodeE at he
  rw [if_neg (by rw [hkd]; decide), if_neg (by rw [hkd]; decide), if_pos hkd] at he
  simp only [Option.some.injEq, Prod.mk.injEq] at he
  obtain ⟨rfl, rfl⟩ := he
  have he := trivial
  rw [show wayF x.kind = 128 from by unfold wayF; rw [hkd]; rfl]
  have H := Lib.hid h
  have HC := Lib.hid hC
  have HL := Lib.hid hL
  have HM := Lib.hid hM
  have HE := Lib.hid he
  have hxw := hC.gr.wf x hx
  have hW := hC.hW
  have htl := hC.gv.text x hx hkd
  obtain ⟨⟨ra, rc, hrv⟩, ⟨na, nc, hnv⟩, ⟨wa, wc, hwv⟩⟩ := hC.shape
  obtain ⟨ka, kc, hkv⟩ := hxw.kv
  obtain ⟨tb, htb⟩ : ∃ tb, tb = C.tb := ⟨_, rfl⟩
  have HTb := Lib.hid htb
  rw [← htb]
  obtain ⟨wl, hwl⟩ : ∃ wl, wl = C.W.length := ⟨_, rfl⟩
  have HWl := Lib.hid hwl
  rw [← hwl] at hwv hp hW
  have HWv := Lib.hid hwv
  obtain ⟨kind, c0, c1, c2, c3, text, rule, level, kids, kv⟩ := x
  simp only at hkv htl hkd
  subst hkv
  unfold ndv
  simp only
  obtain ⟨kn, hkn⟩ : ∃ kn, kn = kids.length := ⟨_, rfl⟩
  have HKn := Lib.hid hkn
  rw [← hkn]
  clear hkn
  subst hkd
  obtain ⟨n, hn⟩ : ∃ n, n = text.size := ⟨_, rfl⟩
  obtain ⟨t, ht⟩ : ∃ t, t = text.data.toList := ⟨_, rfl⟩
  have htn : t.length = n := by rw [ht, hn]; rfl
  have HIx := Lib.hid (show ∀ (k : Nat) (hk : k < t.length) (w : World), (Instr.index 9 (.string text) (.int .i64 k)).run Tryz.prog w = .ok (.int .u8 (t[k].toNat : Int)) w from fun k hk w => by subst ht; exact str_byte text k (by simpa using hk) w)
  rw [← ht]
  have HNn := Lib.hid hn
  rw [← hn] at htl
  have HRv := Lib.hid (show ∀ q, q < wl → ∃ b off, wa = some ⟨b, off, none⟩ ∧ ∃ c, C.W[q]? = some c ∧ ∀ z, Below C.w0.heap.size C.w0 z → z.cell? ⟨b, off + q, none⟩ = some (.int .u8 (c.toNat : Int)) from fun q hq => by
    have hq2 : q < C.W.length := by rw [← HWl.out]; exact hq
    obtain ⟨b, off, e, hc⟩ := hC.byte hwv hq2
    exact ⟨b, off, e, C.W[q], List.getElem?_eq_getElem hq2, hc⟩)
  obtain ⟨rr, hrr⟩ : ∃ rr, rr = textAt C.W t p := ⟨_, rfl⟩
  have HRr := Lib.hid hrr
  rw [← hrr]
  have HTn := Lib.hid htn
  clear h hC hL hM he hl hx hxw hrv hnv hwv htb hwl hn ht htn hrr
  go_enter Tryz.func128, Tryz.ntmps128
  go_upto_region 1 with (fail)
  refine gen_world (S := fun u => Below w.heap.size w u ∧ u.heap[w.heap.size]? = some (.cells #[.int .i64 4, .int .u64 c0, .int .u64 c1, .int .u64 c2, .int .u64 c3, .string text, .int .i64 rule, .int .i64 level, .slice ka kn kc] 60 (0, 0)) ∧ u.heap[w.heap.size + 1]? = some (.cells #[.bool false, .int .i64 0, .int .i64 0, .int .i64 0, .slice none 0 0] 73 (0, 0))) (two_new w _ _) (fun u hu => ?_)
  obtain ⟨hb, h1, h2⟩ := hu
  have HB := Lib.hid hb
  have H1 := Lib.hid h1
  have H2 := Lib.hid h2
  obtain ⟨X, hX⟩ : ∃ X, X = w.heap.size := ⟨_, rfl⟩
  rw [← hX] at H1 H2 ⊢
  have HX := Lib.hid hX
  have HT := Lib.hid (H.out.later hb)
  have HK := Lib.hid (KeepT.ofBelow hb : KeepT C.w0.heap.size TTm true w u)
  clear hb h1 h2 hX
  obtain ⟨v0, v1, v2, v3, v4, v5, v6, v7, v8⟩ := nine_box H1.out
  go_upto_region 2 with (fail)
  rw [← HNn.out]
  clear v0 v1 v2 v3 v4 v5 v6 v7 v8
  go_loopw [11] (fun i wr => ∃ k : Nat, k ≤ n ∧ i = .int .i64 k ∧ Hid (textAt C.W (t.drop k) (p + k) = rr) ∧ Hid (Below u.heap.size u wr) ∧ Hid (p + k ≤ wl)) (fun i _ => n - (intOf i).toNat)
  case atStart => exact ⟨0, Nat.zero_le _, rfl, Lib.hid (by simpa using HRr.out.symm), Lib.hid (Below.refl _ _), Lib.hid (by simpa using hp)⟩
  case round =>
    obtain ⟨k, hk, rfl, HI, Hb, HPk⟩ := hrel
    have hpk := HPk.out
    have HTr := Lib.hid (HT.out.later Hb.out)
    have H1r := Lib.hid ((Hb.out.block _ (lt_of_block H1.out)).trans H1.out)
    have H2r := Lib.hid ((Hb.out.block _ (lt_of_block H2.out)).trans H2.out)
    have HKr := Lib.hid (KeepT.tra HK.out (KeepT.ofBelow Hb.out))
    by_cases hlt : k < n
    case neg =>
      obtain rfl : k = n := by omega
      have hlt2 : ¬ (k : Int) < (k : Int) := by omega
      have HR1 := Lib.hid (show rr = .hit (upTo (p + k)) by rw [← HI.out, List.drop_of_length_le (by rw [HTn.out]; exact Nat.le_refl _)]; rfl)
      have hw1 : IntKind.i64.wrap ((p : Int) + (text.size : Int)) = (p : Int) + (k : Int) := by rw [← HNn.out]; exact IntWalk.i64_in _ (by omega)
      obtain ⟨v0, v1, v2, v3, v4, v5, v6, v7, v8⟩ := nine_box H1r.out
      go_wp2_with fail
      refine (upTo_any ((p : Int) + (k : Int)) wr).mono ?_
      rintro e w1 ⟨rfl, hb1⟩
      have HT1 := Lib.hid (HTr.out.later hb1)
      have HK1 := Lib.hid (KeepT.tra HKr.out (KeepT.ofBelow hb1))
      have H21 := Lib.hid ((hb1.block _ (lt_of_block H2r.out)).trans H2r.out)
      clear hb1
      obtain ⟨d0, d1, d2, d3, d4⟩ := five_box H21.out
      obtain ⟨g0, g1, g2, g3, g4⟩ := five_frz H21.out
      go_wp2
      obtain ⟨k5, hk5⟩ := set5 H21.out (.bool true) (.int .i64 ((p : Int) + (k : Int))) (.int .i64 (-1)) (.int .i64 0) (.slice none 0 0)
      obtain ⟨q0, q1, q2, q3, q4⟩ := five_box k5
      have hxw : w.heap.size ≤ X + 1 := by have := HX.out; omega
      exact bodyPost_ret (v := .agg #[.bool true, .int .i64 ((p : Int) + (k : Int)), .int .i64 (-1), .int .i64 0, .slice none 0 0]) (by simp [results, Tryz.f128, go_sem, q0, q1, q2, q3, q4]) rfl ⟨⟨_, rfl, .slice none 0 0, by rw [HR1.out]; rfl, by rw [HR1.out]; exact TwIn.nil _⟩, HT1.out.res H21.out (Nat.le_trans H.out.base hxw) hk5, HK1.out.endAt hxw hk5⟩
    case pos =>
      have hlt2 : (k : Int) < (n : Int) := by omega
      have hkt : k < t.length := by rw [HTn.out]; exact hlt
      have hkt2 : (k : Int) < (text.size : Int) := by rw [← HNn.out]; exact hlt2
      have hsp := text_split C.W t k (p + k) hkt
      rw [HI.out] at hsp
      have hix := HIx.out k hkt
      obtain ⟨d, hd⟩ : ∃ d, d = t[k] := ⟨_, rfl⟩
      rw [← hd] at hsp hix
      have HSp := Lib.hid hsp
      obtain ⟨q, hqe⟩ : ∃ q, q = p + k := ⟨_, rfl⟩
      have hw1 : IntKind.i64.wrap ((p : Int) + (k : Int)) = (q : Int) := by rw [IntWalk.i64_in _ (by omega)]; omega
      have HQe := Lib.hid hqe
      rw [← hqe] at HSp hpk
      clear hd hsp hqe
      by_cases hq : q = wl
      case pos =>
        have HR1 := Lib.hid (show rr = .miss (q : Int) by rw [HSp.out, if_neg]; intro h; have := (List.getElem?_eq_some_iff.1 h).1; rw [← HWl.out] at this; omega)
        have d0 : ((q : Int) == (wl : Int)) = true := by simp; omega
        clear hq
        go_upto_region 4 with (fail)
        refine wp_region_held_drew (S := fun z => Below wr.heap.size wr z) (by kernel_rfl) (Below.refl wr.heap.size wr).drew (fun hS => ?_)
        refine wpAnyH_take (i := 0) (oi := ⟨_, _, _, _, _, _⟩) (v := ?v75) rfl (by kernel_rfl) (by kernel_rfl) (by kernel_rfl) (fun _ _ _ h => h) ?y75 hS ?_
        case y75 => first | (refine Or.inr ⟨by rfl, ?_⟩; with_reducible rfl) | (refine Or.inl ⟨by rfl, ?_⟩; intro wS hSw; obtain ⟨v0, v1, v2, v3, v4, v5, v6, v7, v8⟩ := nine_box ((hSw.block _ (lt_of_block H1r.out)).trans H1r.out); obtain ⟨-, -, -, -, -, t5, -⟩ := (HTr.out.later hSw).cells; rw [HWv.out, ← HTb.out] at t5; go_simp; try with_reducible rfl)
        simp only [Act.put, List.setIfInBounds_toArray, List.set_cons_zero, List.set_cons_succ]
        refine wpAnyH_take (i := 1) (oi := ⟨_, _, _, _, _, _⟩) (v := ?v76) rfl (by kernel_rfl) (by kernel_rfl) (by kernel_rfl) (fun _ _ _ h => h) ?y76 hS ?_
        case y76 => first | (refine Or.inr ⟨by rfl, ?_⟩; with_reducible rfl) | (refine Or.inl ⟨by rfl, ?_⟩; intro wS hSw; obtain ⟨v0, v1, v2, v3, v4, v5, v6, v7, v8⟩ := nine_box ((hSw.block _ (lt_of_block H1r.out)).trans H1r.out); obtain ⟨-, -, -, -, -, t5, -⟩ := (HTr.out.later hSw).cells; rw [HWv.out, ← HTb.out] at t5; go_simp; try with_reducible rfl)
        simp only [Act.put, List.setIfInBounds_toArray, List.set_cons_zero, List.set_cons_succ]
        refine wpAnyH_take (i := 2) (oi := ⟨_, _, _, _, _, _⟩) (v := ?v77) rfl (by kernel_rfl) (by kernel_rfl) (by kernel_rfl) (fun _ _ _ h => h) ?y77 hS ?_
        case y77 => first | (refine Or.inr ⟨by rfl, ?_⟩; with_reducible rfl) | (refine Or.inl ⟨by rfl, ?_⟩; intro wS hSw; obtain ⟨v0, v1, v2, v3, v4, v5, v6, v7, v8⟩ := nine_box ((hSw.block _ (lt_of_block H1r.out)).trans H1r.out); obtain ⟨-, -, -, -, -, t5, -⟩ := (HTr.out.later hSw).cells; rw [HWv.out, ← HTb.out] at t5; go_simp; try with_reducible rfl)
        simp only [Act.put, List.setIfInBounds_toArray, List.set_cons_zero, List.set_cons_succ]
        refine wpAnyH_take (i := 3) (oi := ⟨_, _, _, _, _, _⟩) (v := ?v78) rfl (by kernel_rfl) (by kernel_rfl) (by kernel_rfl) (fun _ _ _ h => h) ?y78 hS ?_
        case y78 => first | (refine Or.inr ⟨by rfl, ?_⟩; with_reducible rfl) | (refine Or.inl ⟨by rfl, ?_⟩; intro wS hSw; obtain ⟨v0, v1, v2, v3, v4, v5, v6, v7, v8⟩ := nine_box ((hSw.block _ (lt_of_block H1r.out)).trans H1r.out); obtain ⟨-, -, -, -, -, t5, -⟩ := (HTr.out.later hSw).cells; rw [HWv.out, ← HTb.out] at t5; go_simp; try with_reducible rfl)
        simp only [Act.put, List.setIfInBounds_toArray, List.set_cons_zero, List.set_cons_succ]
        refine wpAnyH_take (i := 4) (oi := ⟨_, _, _, _, _, _⟩) (v := ?v79) rfl (by kernel_rfl) (by kernel_rfl) (by kernel_rfl) (fun _ _ _ h => h) ?y79 hS ?_
        case y79 => first | (refine Or.inr ⟨by rfl, ?_⟩; with_reducible rfl) | (refine Or.inl ⟨by rfl, ?_⟩; intro wS hSw; obtain ⟨v0, v1, v2, v3, v4, v5, v6, v7, v8⟩ := nine_box ((hSw.block _ (lt_of_block H1r.out)).trans H1r.out); obtain ⟨-, -, -, -, -, t5, -⟩ := (HTr.out.later hSw).cells; rw [HWv.out, ← HTb.out] at t5; go_simp; try with_reducible rfl)
        simp only [Act.put, List.setIfInBounds_toArray, List.set_cons_zero, List.set_cons_succ]
        refine wpAnyH_take (i := 5) (oi := ⟨_, _, _, _, _, _⟩) (v := ?v80) rfl (by kernel_rfl) (by kernel_rfl) (by kernel_rfl) (fun _ _ _ h => h) ?y80 hS ?_
        case y80 => first | (refine Or.inr ⟨by rfl, ?_⟩; with_reducible rfl) | (refine Or.inl ⟨by rfl, ?_⟩; intro wS hSw; obtain ⟨v0, v1, v2, v3, v4, v5, v6, v7, v8⟩ := nine_box ((hSw.block _ (lt_of_block H1r.out)).trans H1r.out); obtain ⟨-, -, -, -, -, t5, -⟩ := (HTr.out.later hSw).cells; rw [HWv.out, ← HTb.out] at t5; go_simp; try with_reducible rfl)
        simp only [Act.put, List.setIfInBounds_toArray, List.set_cons_zero, List.set_cons_succ]
        refine wpAnyH_take (i := 6) (oi := ⟨_, _, _, _, _, _⟩) (v := ?v81) rfl (by kernel_rfl) (by kernel_rfl) (by kernel_rfl) (fun _ _ _ h => h) ?y81 hS ?_
        case y81 => first | (refine Or.inr ⟨by rfl, ?_⟩; with_reducible rfl) | (refine Or.inl ⟨by rfl, ?_⟩; intro wS hSw; obtain ⟨v0, v1, v2, v3, v4, v5, v6, v7, v8⟩ := nine_box ((hSw.block _ (lt_of_block H1r.out)).trans H1r.out); obtain ⟨-, -, -, -, -, t5, -⟩ := (HTr.out.later hSw).cells; rw [HWv.out, ← HTb.out] at t5; go_simp; try with_reducible rfl)
        simp only [Act.put, List.setIfInBounds_toArray, List.set_cons_zero, List.set_cons_succ]
        refine wpAnyH_take (i := 7) (oi := ⟨_, _, _, _, _, _⟩) (v := ?v82) rfl (by kernel_rfl) (by kernel_rfl) (by kernel_rfl) (fun _ _ _ h => h) ?y82 hS ?_
        case y82 => first | (refine Or.inr ⟨by rfl, ?_⟩; with_reducible rfl) | (refine Or.inl ⟨by rfl, ?_⟩; intro wS hSw; obtain ⟨v0, v1, v2, v3, v4, v5, v6, v7, v8⟩ := nine_box ((hSw.block _ (lt_of_block H1r.out)).trans H1r.out); obtain ⟨-, -, -, -, -, t5, -⟩ := (HTr.out.later hSw).cells; rw [HWv.out, ← HTb.out] at t5; go_simp; try with_reducible rfl)
        simp only [Act.put, List.setIfInBounds_toArray, List.set_cons_zero, List.set_cons_succ]
        refine wpAnyH_take (i := 8) (oi := ⟨_, _, _, _, _, _⟩) (v := ?v83) rfl (by kernel_rfl) (by kernel_rfl) (by kernel_rfl) (fun _ _ _ h => h) ?y83 hS ?_
        case y83 => first | (refine Or.inr ⟨by rfl, ?_⟩; with_reducible rfl) | (refine Or.inl ⟨by rfl, ?_⟩; intro wS hSw; obtain ⟨v0, v1, v2, v3, v4, v5, v6, v7, v8⟩ := nine_box ((hSw.block _ (lt_of_block H1r.out)).trans H1r.out); obtain ⟨-, -, -, -, -, t5, -⟩ := (HTr.out.later hSw).cells; rw [HWv.out, ← HTb.out] at t5; go_simp; try with_reducible rfl)
        simp only [Act.put, List.setIfInBounds_toArray, List.set_cons_zero, List.set_cons_succ]
        refine wpAnyH_take (i := 9) (oi := ⟨_, _, _, _, _, _⟩) (v := ?v84) rfl (by kernel_rfl) (by kernel_rfl) (by kernel_rfl) (fun _ _ _ h => h) ?y84 hS ?_
        case y84 => first | (refine Or.inr ⟨by rfl, ?_⟩; with_reducible rfl) | (refine Or.inl ⟨by rfl, ?_⟩; intro wS hSw; obtain ⟨v0, v1, v2, v3, v4, v5, v6, v7, v8⟩ := nine_box ((hSw.block _ (lt_of_block H1r.out)).trans H1r.out); obtain ⟨-, -, -, -, -, t5, -⟩ := (HTr.out.later hSw).cells; rw [HWv.out, ← HTb.out] at t5; go_simp; try with_reducible rfl)
        simp only [Act.put, List.setIfInBounds_toArray, List.set_cons_zero, List.set_cons_succ]
        refine wpAnyH_take (i := 10) (oi := ⟨_, _, _, _, _, _⟩) (v := ?v85) rfl (by kernel_rfl) (by kernel_rfl) (by kernel_rfl) (fun _ _ _ h => h) ?y85 hS ?_
        case y85 => first | (refine Or.inr ⟨by rfl, ?_⟩; with_reducible rfl) | (refine Or.inl ⟨by rfl, ?_⟩; intro wS hSw; obtain ⟨v0, v1, v2, v3, v4, v5, v6, v7, v8⟩ := nine_box ((hSw.block _ (lt_of_block H1r.out)).trans H1r.out); obtain ⟨-, -, -, -, -, t5, -⟩ := (HTr.out.later hSw).cells; rw [HWv.out, ← HTb.out] at t5; go_simp; try with_reducible rfl)
        simp only [Act.put, List.setIfInBounds_toArray, List.set_cons_zero, List.set_cons_succ]
        refine wpAnyH_take (i := 11) (oi := ⟨_, _, _, _, _, _⟩) (v := ?v86) rfl (by kernel_rfl) (by kernel_rfl) (by kernel_rfl) (fun _ _ _ h => h) ?y86 hS ?_
        case y86 => first | (refine Or.inr ⟨by rfl, ?_⟩; with_reducible rfl) | (refine Or.inl ⟨by rfl, ?_⟩; intro wS hSw; obtain ⟨v0, v1, v2, v3, v4, v5, v6, v7, v8⟩ := nine_box ((hSw.block _ (lt_of_block H1r.out)).trans H1r.out); obtain ⟨-, -, -, -, -, t5, -⟩ := (HTr.out.later hSw).cells; rw [HWv.out, ← HTb.out] at t5; go_simp; try with_reducible rfl)
        simp only [Act.put, List.setIfInBounds_toArray, List.set_cons_zero, List.set_cons_succ]
        refine wpAnyH_take (i := 12) (oi := ⟨_, _, _, _, _, _⟩) (v := ?v87) rfl (by kernel_rfl) (by kernel_rfl) (by kernel_rfl) (fun _ _ _ h => h) ?y87 hS ?_
        case y87 => first | (refine Or.inr ⟨by rfl, ?_⟩; with_reducible rfl) | (refine Or.inl ⟨by rfl, ?_⟩; intro wS hSw; obtain ⟨v0, v1, v2, v3, v4, v5, v6, v7, v8⟩ := nine_box ((hSw.block _ (lt_of_block H1r.out)).trans H1r.out); obtain ⟨-, -, -, -, -, t5, -⟩ := (HTr.out.later hSw).cells; rw [HWv.out, ← HTb.out] at t5; go_simp; try with_reducible rfl)
        simp only [Act.put, List.setIfInBounds_toArray, List.set_cons_zero, List.set_cons_succ]
        refine wpAnyH_take (i := 13) (oi := ⟨_, _, _, _, _, _⟩) (v := ?v88) rfl (by kernel_rfl) (by kernel_rfl) (by kernel_rfl) (fun _ _ _ h => h) ?y88 hS ?_
        case y88 => first | (refine Or.inr ⟨by rfl, ?_⟩; with_reducible rfl) | (refine Or.inl ⟨by rfl, ?_⟩; intro wS hSw; obtain ⟨v0, v1, v2, v3, v4, v5, v6, v7, v8⟩ := nine_box ((hSw.block _ (lt_of_block H1r.out)).trans H1r.out); obtain ⟨-, -, -, -, -, t5, -⟩ := (HTr.out.later hSw).cells; rw [HWv.out, ← HTb.out] at t5; go_simp; try with_reducible rfl)
        simp only [Act.put, List.setIfInBounds_toArray, List.set_cons_zero, List.set_cons_succ]
        refine wpAnyH_take (i := 14) (oi := ⟨_, _, _, _, _, _⟩) (v := ?v89) rfl (by kernel_rfl) (by kernel_rfl) (by kernel_rfl) (fun _ _ _ h => h) ?y89 hS ?_
        case y89 => first | (refine Or.inr ⟨by rfl, ?_⟩; with_reducible rfl) | (refine Or.inl ⟨by rfl, ?_⟩; intro wS hSw; obtain ⟨v0, v1, v2, v3, v4, v5, v6, v7, v8⟩ := nine_box ((hSw.block _ (lt_of_block H1r.out)).trans H1r.out); obtain ⟨-, -, -, -, -, t5, -⟩ := (HTr.out.later hSw).cells; rw [HWv.out, ← HTb.out] at t5; go_simp; try with_reducible rfl)
        simp only [Act.put, List.setIfInBounds_toArray, List.set_cons_zero, List.set_cons_succ]
        refine wpAnyH_take (i := 15) (oi := ⟨_, _, _, _, _, _⟩) (v := ?v90) rfl (by kernel_rfl) (by kernel_rfl) (by kernel_rfl) (fun _ _ _ h => h) ?y90 hS ?_
        case y90 => first | (refine Or.inr ⟨by rfl, ?_⟩; with_reducible rfl) | (refine Or.inl ⟨by rfl, ?_⟩; intro wS hSw; obtain ⟨v0, v1, v2, v3, v4, v5, v6, v7, v8⟩ := nine_box ((hSw.block _ (lt_of_block H1r.out)).trans H1r.out); obtain ⟨-, -, -, -, -, t5, -⟩ := (HTr.out.later hSw).cells; rw [HWv.out, ← HTb.out] at t5; go_simp; try with_reducible rfl)
        simp only [Act.put, List.setIfInBounds_toArray, List.set_cons_zero, List.set_cons_succ]
        refine wpAnyH_take (i := 16) (oi := ⟨_, _, _, _, _, _⟩) (v := ?v91) rfl (by kernel_rfl) (by kernel_rfl) (by kernel_rfl) (fun _ _ _ h => h) ?y91 hS ?_
        case y91 => first | (refine Or.inr ⟨by rfl, ?_⟩; with_reducible rfl) | (refine Or.inl ⟨by rfl, ?_⟩; intro wS hSw; obtain ⟨v0, v1, v2, v3, v4, v5, v6, v7, v8⟩ := nine_box ((hSw.block _ (lt_of_block H1r.out)).trans H1r.out); obtain ⟨-, -, -, -, -, t5, -⟩ := (HTr.out.later hSw).cells; rw [HWv.out, ← HTb.out] at t5; go_simp; try with_reducible rfl)
        simp only [Act.put, List.setIfInBounds_toArray, List.set_cons_zero, List.set_cons_succ]
        refine wpAnyH_take (i := 17) (oi := ⟨_, _, _, _, _, _⟩) (v := ?v92) rfl (by kernel_rfl) (by kernel_rfl) (by kernel_rfl) (fun _ _ _ h => h) ?y92 hS ?_
        case y92 => first | (refine Or.inr ⟨by rfl, ?_⟩; with_reducible rfl) | (refine Or.inl ⟨by rfl, ?_⟩; intro wS hSw; obtain ⟨v0, v1, v2, v3, v4, v5, v6, v7, v8⟩ := nine_box ((hSw.block _ (lt_of_block H1r.out)).trans H1r.out); obtain ⟨-, -, -, -, -, t5, -⟩ := (HTr.out.later hSw).cells; rw [HWv.out, ← HTb.out] at t5; go_simp; try with_reducible rfl)
        simp only [Act.put, List.setIfInBounds_toArray, List.set_cons_zero, List.set_cons_succ]
        refine wpAnyH_take (i := 18) (oi := ⟨_, _, _, _, _, _⟩) (v := ?v93) rfl (by kernel_rfl) (by kernel_rfl) (by kernel_rfl) (fun _ _ _ h => h) ?y93 hS ?_
        case y93 => first | (refine Or.inr ⟨by rfl, ?_⟩; with_reducible rfl) | (refine Or.inl ⟨by rfl, ?_⟩; intro wS hSw; obtain ⟨v0, v1, v2, v3, v4, v5, v6, v7, v8⟩ := nine_box ((hSw.block _ (lt_of_block H1r.out)).trans H1r.out); obtain ⟨-, -, -, -, -, t5, -⟩ := (HTr.out.later hSw).cells; rw [HWv.out, ← HTb.out] at t5; go_simp; try with_reducible rfl)
        simp only [Act.put, List.setIfInBounds_toArray, List.set_cons_zero, List.set_cons_succ]
        refine wpAnyH_take (i := 19) (oi := ⟨_, _, _, _, _, _⟩) (v := ?v94) rfl (by kernel_rfl) (by kernel_rfl) (by kernel_rfl) (fun _ _ _ h => h) ?y94 hS ?_
        case y94 => first | (refine Or.inr ⟨by rfl, ?_⟩; with_reducible rfl) | (refine Or.inl ⟨by rfl, ?_⟩; intro wS hSw; obtain ⟨v0, v1, v2, v3, v4, v5, v6, v7, v8⟩ := nine_box ((hSw.block _ (lt_of_block H1r.out)).trans H1r.out); obtain ⟨-, -, -, -, -, t5, -⟩ := (HTr.out.later hSw).cells; rw [HWv.out, ← HTb.out] at t5; go_simp; try with_reducible rfl)
        simp only [Act.put, List.setIfInBounds_toArray, List.set_cons_zero, List.set_cons_succ]
        refine wpAnyH_take (i := 20) (oi := ⟨_, _, _, _, _, _⟩) (v := ?v95) rfl (by kernel_rfl) (by kernel_rfl) (by kernel_rfl) (fun _ _ _ h => h) ?y95 hS ?_
        case y95 => first | (refine Or.inr ⟨by rfl, ?_⟩; with_reducible rfl) | (refine Or.inl ⟨by rfl, ?_⟩; intro wS hSw; obtain ⟨v0, v1, v2, v3, v4, v5, v6, v7, v8⟩ := nine_box ((hSw.block _ (lt_of_block H1r.out)).trans H1r.out); obtain ⟨-, -, -, -, -, t5, -⟩ := (HTr.out.later hSw).cells; rw [HWv.out, ← HTb.out] at t5; go_simp; try with_reducible rfl)
        simp only [Act.put, List.setIfInBounds_toArray, List.set_cons_zero, List.set_cons_succ]
        refine wpAnyH_take (i := 21) (oi := ⟨_, _, _, _, _, _⟩) (v := ?v96) rfl (by kernel_rfl) (by kernel_rfl) (by kernel_rfl) (fun _ _ _ h => h) ?y96 hS ?_
        case y96 => first | (refine Or.inr ⟨by rfl, ?_⟩; with_reducible rfl) | (refine Or.inl ⟨by rfl, ?_⟩; intro wS hSw; obtain ⟨v0, v1, v2, v3, v4, v5, v6, v7, v8⟩ := nine_box ((hSw.block _ (lt_of_block H1r.out)).trans H1r.out); obtain ⟨-, -, -, -, -, t5, -⟩ := (HTr.out.later hSw).cells; rw [HWv.out, ← HTb.out] at t5; go_simp; try with_reducible rfl)
        simp only [Act.put, List.setIfInBounds_toArray, List.set_cons_zero, List.set_cons_succ]
        refine wpAnyH_take (i := 22) (oi := ⟨_, _, _, _, _, _⟩) (v := ?v97) rfl (by kernel_rfl) (by kernel_rfl) (by kernel_rfl) (fun _ _ _ h => h) ?y97 hS ?_
        case y97 => first | (refine Or.inr ⟨by rfl, ?_⟩; with_reducible rfl) | (refine Or.inl ⟨by rfl, ?_⟩; intro wS hSw; obtain ⟨v0, v1, v2, v3, v4, v5, v6, v7, v8⟩ := nine_box ((hSw.block _ (lt_of_block H1r.out)).trans H1r.out); obtain ⟨-, -, -, -, -, t5, -⟩ := (HTr.out.later hSw).cells; rw [HWv.out, ← HTb.out] at t5; go_simp; try with_reducible rfl)
        simp only [Act.put, List.setIfInBounds_toArray, List.set_cons_zero, List.set_cons_succ]
        refine wpAnyH_take (i := 23) (oi := ⟨_, _, _, _, _, _⟩) (v := ?v98) rfl (by kernel_rfl) (by kernel_rfl) (by kernel_rfl) (fun _ _ _ h => h) ?y98 hS ?_
        case y98 => first | (refine Or.inr ⟨by rfl, ?_⟩; with_reducible rfl) | (refine Or.inl ⟨by rfl, ?_⟩; intro wS hSw; obtain ⟨v0, v1, v2, v3, v4, v5, v6, v7, v8⟩ := nine_box ((hSw.block _ (lt_of_block H1r.out)).trans H1r.out); obtain ⟨-, -, -, -, -, t5, -⟩ := (HTr.out.later hSw).cells; rw [HWv.out, ← HTb.out] at t5; go_simp; try with_reducible rfl)
        simp only [Act.put, List.setIfInBounds_toArray, List.set_cons_zero, List.set_cons_succ]
        refine wpAnyH_take (i := 24) (oi := ⟨_, _, _, _, _, _⟩) (v := ?v99) rfl (by kernel_rfl) (by kernel_rfl) (by kernel_rfl) (fun _ _ _ h => h) ?y99 hS ?_
        case y99 => first | (refine Or.inr ⟨by rfl, ?_⟩; with_reducible rfl) | (refine Or.inl ⟨by rfl, ?_⟩; intro wS hSw; obtain ⟨v0, v1, v2, v3, v4, v5, v6, v7, v8⟩ := nine_box ((hSw.block _ (lt_of_block H1r.out)).trans H1r.out); obtain ⟨-, -, -, -, -, t5, -⟩ := (HTr.out.later hSw).cells; rw [HWv.out, ← HTb.out] at t5; go_simp; try with_reducible rfl)
        simp only [Act.put, List.setIfInBounds_toArray, List.set_cons_zero, List.set_cons_succ]
        refine wpAnyH_done (by kernel_rfl) ?_ _
        have HSf := Lib.hid hS
        clear hS
        go_wp2_with fail
        refine (miss_any (q : Int) _).mono ?_
        rintro e w1 ⟨rfl, hb1⟩
        have hu1 := HSf.out.trans (hb1.mono HSf.out.size)
        have HT1 := Lib.hid (HTr.out.later hu1)
        have HK1 := Lib.hid (KeepT.tra HKr.out (KeepT.ofBelow hu1))
        have H21 := Lib.hid ((hu1.block _ (lt_of_block H2r.out)).trans H2r.out)
        clear hb1 hu1
        obtain ⟨d0, d1, d2, d3, d4⟩ := five_box H21.out
        obtain ⟨g0, g1, g2, g3, g4⟩ := five_frz H21.out
        go_wp2
        obtain ⟨k5, hk5⟩ := set5 H21.out (.bool false) (.int .i64 0) (.int .i64 (q : Int)) (.int .i64 0) (.slice none 0 0)
        obtain ⟨q0, q1, q2, q3, q4⟩ := five_box k5
        have hxw : w.heap.size ≤ X + 1 := by have := HX.out; omega
        exact bodyPost_ret (v := .agg #[.bool false, .int .i64 0, .int .i64 (q : Int), .int .i64 0, .slice none 0 0]) (by simp [results, Tryz.f128, go_sem, q0, q1, q2, q3, q4]) rfl ⟨⟨_, rfl, .slice none 0 0, by rw [HR1.out]; rfl, by rw [HR1.out]; exact TwIn.nil _⟩, HT1.out.res H21.out (Nat.le_trans H.out.base hxw) hk5, HK1.out.endAt hxw hk5⟩
      case neg =>
        obtain ⟨b, off, rfl, c, hc, hby⟩ := HRv.out q (by omega)
        have HBy := Lib.hid hby
        have d0 : ((q : Int) == (wl : Int)) = false := by simp; omega
        have d1 : (q : Int) < (wl : Int) := by omega
        have d2 : ¬ q = wl := hq
        by_cases hcd : c = d
        case neg =>
          have HR1 := Lib.hid (show rr = .miss (q : Int) by rw [HSp.out, hc, if_neg]; intro h; exact hcd (Option.some.inj h))
          have e0 : ¬ (c.toNat : Int) = (d.toNat : Int) := fun h => hcd (UInt8.toNat_inj.1 (by omega))
          have e1 : ((c.toNat : Int) == (d.toNat : Int)) = false := by simpa using e0
          clear hby hc hcd
          go_upto_region 4 with (fail)
          refine wp_region_held_drew (S := fun z => Below wr.heap.size wr z) (by kernel_rfl) (Below.refl wr.heap.size wr).drew (fun hS => ?_)
          refine wpAnyH_take (i := 0) (oi := ⟨_, _, _, _, _, _⟩) (v := ?v100) rfl (by kernel_rfl) (by kernel_rfl) (by kernel_rfl) (fun _ _ _ h => h) ?y100 hS ?_
          case y100 => first | (refine Or.inr ⟨by rfl, ?_⟩; with_reducible rfl) | (refine Or.inl ⟨by rfl, ?_⟩; intro wS hSw; obtain ⟨v0, v1, v2, v3, v4, v5, v6, v7, v8⟩ := nine_box ((hSw.block _ (lt_of_block H1r.out)).trans H1r.out); obtain ⟨-, -, -, -, -, t5, -⟩ := (HTr.out.later hSw).cells; rw [HWv.out, ← HTb.out] at t5; have b0 := HBy.out wS (HTr.out.later hSw).bel; go_simp; try with_reducible rfl)
          simp only [Act.put, List.setIfInBounds_toArray, List.set_cons_zero, List.set_cons_succ]
          refine wpAnyH_take (i := 1) (oi := ⟨_, _, _, _, _, _⟩) (v := ?v101) rfl (by kernel_rfl) (by kernel_rfl) (by kernel_rfl) (fun _ _ _ h => h) ?y101 hS ?_
          case y101 => first | (refine Or.inr ⟨by rfl, ?_⟩; with_reducible rfl) | (refine Or.inl ⟨by rfl, ?_⟩; intro wS hSw; obtain ⟨v0, v1, v2, v3, v4, v5, v6, v7, v8⟩ := nine_box ((hSw.block _ (lt_of_block H1r.out)).trans H1r.out); obtain ⟨-, -, -, -, -, t5, -⟩ := (HTr.out.later hSw).cells; rw [HWv.out, ← HTb.out] at t5; have b0 := HBy.out wS (HTr.out.later hSw).bel; go_simp; try with_reducible rfl)
          simp only [Act.put, List.setIfInBounds_toArray, List.set_cons_zero, List.set_cons_succ]
          refine wpAnyH_take (i := 2) (oi := ⟨_, _, _, _, _, _⟩) (v := ?v102) rfl (by kernel_rfl) (by kernel_rfl) (by kernel_rfl) (fun _ _ _ h => h) ?y102 hS ?_
          case y102 => first | (refine Or.inr ⟨by rfl, ?_⟩; with_reducible rfl) | (refine Or.inl ⟨by rfl, ?_⟩; intro wS hSw; obtain ⟨v0, v1, v2, v3, v4, v5, v6, v7, v8⟩ := nine_box ((hSw.block _ (lt_of_block H1r.out)).trans H1r.out); obtain ⟨-, -, -, -, -, t5, -⟩ := (HTr.out.later hSw).cells; rw [HWv.out, ← HTb.out] at t5; have b0 := HBy.out wS (HTr.out.later hSw).bel; go_simp; try with_reducible rfl)
          simp only [Act.put, List.setIfInBounds_toArray, List.set_cons_zero, List.set_cons_succ]
          refine wpAnyH_take (i := 3) (oi := ⟨_, _, _, _, _, _⟩) (v := ?v103) rfl (by kernel_rfl) (by kernel_rfl) (by kernel_rfl) (fun _ _ _ h => h) ?y103 hS ?_
          case y103 => first | (refine Or.inr ⟨by rfl, ?_⟩; with_reducible rfl) | (refine Or.inl ⟨by rfl, ?_⟩; intro wS hSw; obtain ⟨v0, v1, v2, v3, v4, v5, v6, v7, v8⟩ := nine_box ((hSw.block _ (lt_of_block H1r.out)).trans H1r.out); obtain ⟨-, -, -, -, -, t5, -⟩ := (HTr.out.later hSw).cells; rw [HWv.out, ← HTb.out] at t5; have b0 := HBy.out wS (HTr.out.later hSw).bel; go_simp; try with_reducible rfl)
          simp only [Act.put, List.setIfInBounds_toArray, List.set_cons_zero, List.set_cons_succ]
          refine wpAnyH_take (i := 4) (oi := ⟨_, _, _, _, _, _⟩) (v := ?v104) rfl (by kernel_rfl) (by kernel_rfl) (by kernel_rfl) (fun _ _ _ h => h) ?y104 hS ?_
          case y104 => first | (refine Or.inr ⟨by rfl, ?_⟩; with_reducible rfl) | (refine Or.inl ⟨by rfl, ?_⟩; intro wS hSw; obtain ⟨v0, v1, v2, v3, v4, v5, v6, v7, v8⟩ := nine_box ((hSw.block _ (lt_of_block H1r.out)).trans H1r.out); obtain ⟨-, -, -, -, -, t5, -⟩ := (HTr.out.later hSw).cells; rw [HWv.out, ← HTb.out] at t5; have b0 := HBy.out wS (HTr.out.later hSw).bel; go_simp; try with_reducible rfl)
          simp only [Act.put, List.setIfInBounds_toArray, List.set_cons_zero, List.set_cons_succ]
          refine wpAnyH_take (i := 5) (oi := ⟨_, _, _, _, _, _⟩) (v := ?v105) rfl (by kernel_rfl) (by kernel_rfl) (by kernel_rfl) (fun _ _ _ h => h) ?y105 hS ?_
          case y105 => first | (refine Or.inr ⟨by rfl, ?_⟩; with_reducible rfl) | (refine Or.inl ⟨by rfl, ?_⟩; intro wS hSw; obtain ⟨v0, v1, v2, v3, v4, v5, v6, v7, v8⟩ := nine_box ((hSw.block _ (lt_of_block H1r.out)).trans H1r.out); obtain ⟨-, -, -, -, -, t5, -⟩ := (HTr.out.later hSw).cells; rw [HWv.out, ← HTb.out] at t5; have b0 := HBy.out wS (HTr.out.later hSw).bel; go_simp; try with_reducible rfl)
          simp only [Act.put, List.setIfInBounds_toArray, List.set_cons_zero, List.set_cons_succ]
          refine wpAnyH_take (i := 6) (oi := ⟨_, _, _, _, _, _⟩) (v := ?v106) rfl (by kernel_rfl) (by kernel_rfl) (by kernel_rfl) (fun _ _ _ h => h) ?y106 hS ?_
          case y106 => first | (refine Or.inr ⟨by rfl, ?_⟩; with_reducible rfl) | (refine Or.inl ⟨by rfl, ?_⟩; intro wS hSw; obtain ⟨v0, v1, v2, v3, v4, v5, v6, v7, v8⟩ := nine_box ((hSw.block _ (lt_of_block H1r.out)).trans H1r.out); obtain ⟨-, -, -, -, -, t5, -⟩ := (HTr.out.later hSw).cells; rw [HWv.out, ← HTb.out] at t5; have b0 := HBy.out wS (HTr.out.later hSw).bel; go_simp; try with_reducible rfl)
          simp only [Act.put, List.setIfInBounds_toArray, List.set_cons_zero, List.set_cons_succ]
          refine wpAnyH_take (i := 7) (oi := ⟨_, _, _, _, _, _⟩) (v := ?v107) rfl (by kernel_rfl) (by kernel_rfl) (by kernel_rfl) (fun _ _ _ h => h) ?y107 hS ?_
          case y107 => first | (refine Or.inr ⟨by rfl, ?_⟩; with_reducible rfl) | (refine Or.inl ⟨by rfl, ?_⟩; intro wS hSw; obtain ⟨v0, v1, v2, v3, v4, v5, v6, v7, v8⟩ := nine_box ((hSw.block _ (lt_of_block H1r.out)).trans H1r.out); obtain ⟨-, -, -, -, -, t5, -⟩ := (HTr.out.later hSw).cells; rw [HWv.out, ← HTb.out] at t5; have b0 := HBy.out wS (HTr.out.later hSw).bel; go_simp; try with_reducible rfl)
          simp only [Act.put, List.setIfInBounds_toArray, List.set_cons_zero, List.set_cons_succ]
          refine wpAnyH_take (i := 8) (oi := ⟨_, _, _, _, _, _⟩) (v := ?v108) rfl (by kernel_rfl) (by kernel_rfl) (by kernel_rfl) (fun _ _ _ h => h) ?y108 hS ?_
          case y108 => first | (refine Or.inr ⟨by rfl, ?_⟩; with_reducible rfl) | (refine Or.inl ⟨by rfl, ?_⟩; intro wS hSw; obtain ⟨v0, v1, v2, v3, v4, v5, v6, v7, v8⟩ := nine_box ((hSw.block _ (lt_of_block H1r.out)).trans H1r.out); obtain ⟨-, -, -, -, -, t5, -⟩ := (HTr.out.later hSw).cells; rw [HWv.out, ← HTb.out] at t5; have b0 := HBy.out wS (HTr.out.later hSw).bel; go_simp; try with_reducible rfl)
          simp only [Act.put, List.setIfInBounds_toArray, List.set_cons_zero, List.set_cons_succ]
          refine wpAnyH_take (i := 9) (oi := ⟨_, _, _, _, _, _⟩) (v := ?v109) rfl (by kernel_rfl) (by kernel_rfl) (by kernel_rfl) (fun _ _ _ h => h) ?y109 hS ?_
          case y109 => first | (refine Or.inr ⟨by rfl, ?_⟩; with_reducible rfl) | (refine Or.inl ⟨by rfl, ?_⟩; intro wS hSw; obtain ⟨v0, v1, v2, v3, v4, v5, v6, v7, v8⟩ := nine_box ((hSw.block _ (lt_of_block H1r.out)).trans H1r.out); obtain ⟨-, -, -, -, -, t5, -⟩ := (HTr.out.later hSw).cells; rw [HWv.out, ← HTb.out] at t5; have b0 := HBy.out wS (HTr.out.later hSw).bel; go_simp; try with_reducible rfl)
          simp only [Act.put, List.setIfInBounds_toArray, List.set_cons_zero, List.set_cons_succ]
          refine wpAnyH_take (i := 10) (oi := ⟨_, _, _, _, _, _⟩) (v := ?v110) rfl (by kernel_rfl) (by kernel_rfl) (by kernel_rfl) (fun _ _ _ h => h) ?y110 hS ?_
          case y110 => first | (refine Or.inr ⟨by rfl, ?_⟩; with_reducible rfl) | (refine Or.inl ⟨by rfl, ?_⟩; intro wS hSw; obtain ⟨v0, v1, v2, v3, v4, v5, v6, v7, v8⟩ := nine_box ((hSw.block _ (lt_of_block H1r.out)).trans H1r.out); obtain ⟨-, -, -, -, -, t5, -⟩ := (HTr.out.later hSw).cells; rw [HWv.out, ← HTb.out] at t5; have b0 := HBy.out wS (HTr.out.later hSw).bel; go_simp; try with_reducible rfl)
          simp only [Act.put, List.setIfInBounds_toArray, List.set_cons_zero, List.set_cons_succ]
          refine wpAnyH_take (i := 11) (oi := ⟨_, _, _, _, _, _⟩) (v := ?v111) rfl (by kernel_rfl) (by kernel_rfl) (by kernel_rfl) (fun _ _ _ h => h) ?y111 hS ?_
          case y111 => first | (refine Or.inr ⟨by rfl, ?_⟩; with_reducible rfl) | (refine Or.inl ⟨by rfl, ?_⟩; intro wS hSw; obtain ⟨v0, v1, v2, v3, v4, v5, v6, v7, v8⟩ := nine_box ((hSw.block _ (lt_of_block H1r.out)).trans H1r.out); obtain ⟨-, -, -, -, -, t5, -⟩ := (HTr.out.later hSw).cells; rw [HWv.out, ← HTb.out] at t5; have b0 := HBy.out wS (HTr.out.later hSw).bel; go_simp; try with_reducible rfl)
          simp only [Act.put, List.setIfInBounds_toArray, List.set_cons_zero, List.set_cons_succ]
          refine wpAnyH_take (i := 12) (oi := ⟨_, _, _, _, _, _⟩) (v := ?v112) rfl (by kernel_rfl) (by kernel_rfl) (by kernel_rfl) (fun _ _ _ h => h) ?y112 hS ?_
          case y112 => first | (refine Or.inr ⟨by rfl, ?_⟩; with_reducible rfl) | (refine Or.inl ⟨by rfl, ?_⟩; intro wS hSw; obtain ⟨v0, v1, v2, v3, v4, v5, v6, v7, v8⟩ := nine_box ((hSw.block _ (lt_of_block H1r.out)).trans H1r.out); obtain ⟨-, -, -, -, -, t5, -⟩ := (HTr.out.later hSw).cells; rw [HWv.out, ← HTb.out] at t5; have b0 := HBy.out wS (HTr.out.later hSw).bel; go_simp; try with_reducible rfl)
          simp only [Act.put, List.setIfInBounds_toArray, List.set_cons_zero, List.set_cons_succ]
          refine wpAnyH_take (i := 13) (oi := ⟨_, _, _, _, _, _⟩) (v := ?v113) rfl (by kernel_rfl) (by kernel_rfl) (by kernel_rfl) (fun _ _ _ h => h) ?y113 hS ?_
          case y113 => first | (refine Or.inr ⟨by rfl, ?_⟩; with_reducible rfl) | (refine Or.inl ⟨by rfl, ?_⟩; intro wS hSw; obtain ⟨v0, v1, v2, v3, v4, v5, v6, v7, v8⟩ := nine_box ((hSw.block _ (lt_of_block H1r.out)).trans H1r.out); obtain ⟨-, -, -, -, -, t5, -⟩ := (HTr.out.later hSw).cells; rw [HWv.out, ← HTb.out] at t5; have b0 := HBy.out wS (HTr.out.later hSw).bel; go_simp; try with_reducible rfl)
          simp only [Act.put, List.setIfInBounds_toArray, List.set_cons_zero, List.set_cons_succ]
          refine wpAnyH_take (i := 14) (oi := ⟨_, _, _, _, _, _⟩) (v := ?v114) rfl (by kernel_rfl) (by kernel_rfl) (by kernel_rfl) (fun _ _ _ h => h) ?y114 hS ?_
          case y114 => first | (refine Or.inr ⟨by rfl, ?_⟩; with_reducible rfl) | (refine Or.inl ⟨by rfl, ?_⟩; intro wS hSw; obtain ⟨v0, v1, v2, v3, v4, v5, v6, v7, v8⟩ := nine_box ((hSw.block _ (lt_of_block H1r.out)).trans H1r.out); obtain ⟨-, -, -, -, -, t5, -⟩ := (HTr.out.later hSw).cells; rw [HWv.out, ← HTb.out] at t5; have b0 := HBy.out wS (HTr.out.later hSw).bel; go_simp; try with_reducible rfl)
          simp only [Act.put, List.setIfInBounds_toArray, List.set_cons_zero, List.set_cons_succ]
          refine wpAnyH_take (i := 15) (oi := ⟨_, _, _, _, _, _⟩) (v := ?v115) rfl (by kernel_rfl) (by kernel_rfl) (by kernel_rfl) (fun _ _ _ h => h) ?y115 hS ?_
          case y115 => first | (refine Or.inr ⟨by rfl, ?_⟩; with_reducible rfl) | (refine Or.inl ⟨by rfl, ?_⟩; intro wS hSw; obtain ⟨v0, v1, v2, v3, v4, v5, v6, v7, v8⟩ := nine_box ((hSw.block _ (lt_of_block H1r.out)).trans H1r.out); obtain ⟨-, -, -, -, -, t5, -⟩ := (HTr.out.later hSw).cells; rw [HWv.out, ← HTb.out] at t5; have b0 := HBy.out wS (HTr.out.later hSw).bel; go_simp; try with_reducible rfl)
          simp only [Act.put, List.setIfInBounds_toArray, List.set_cons_zero, List.set_cons_succ]
          refine wpAnyH_take (i := 16) (oi := ⟨_, _, _, _, _, _⟩) (v := ?v116) rfl (by kernel_rfl) (by kernel_rfl) (by kernel_rfl) (fun _ _ _ h => h) ?y116 hS ?_
          case y116 => first | (refine Or.inr ⟨by rfl, ?_⟩; with_reducible rfl) | (refine Or.inl ⟨by rfl, ?_⟩; intro wS hSw; obtain ⟨v0, v1, v2, v3, v4, v5, v6, v7, v8⟩ := nine_box ((hSw.block _ (lt_of_block H1r.out)).trans H1r.out); obtain ⟨-, -, -, -, -, t5, -⟩ := (HTr.out.later hSw).cells; rw [HWv.out, ← HTb.out] at t5; have b0 := HBy.out wS (HTr.out.later hSw).bel; go_simp; try with_reducible rfl)
          simp only [Act.put, List.setIfInBounds_toArray, List.set_cons_zero, List.set_cons_succ]
          refine wpAnyH_take (i := 17) (oi := ⟨_, _, _, _, _, _⟩) (v := ?v117) rfl (by kernel_rfl) (by kernel_rfl) (by kernel_rfl) (fun _ _ _ h => h) ?y117 hS ?_
          case y117 => first | (refine Or.inr ⟨by rfl, ?_⟩; with_reducible rfl) | (refine Or.inl ⟨by rfl, ?_⟩; intro wS hSw; obtain ⟨v0, v1, v2, v3, v4, v5, v6, v7, v8⟩ := nine_box ((hSw.block _ (lt_of_block H1r.out)).trans H1r.out); obtain ⟨-, -, -, -, -, t5, -⟩ := (HTr.out.later hSw).cells; rw [HWv.out, ← HTb.out] at t5; have b0 := HBy.out wS (HTr.out.later hSw).bel; go_simp; try with_reducible rfl)
          simp only [Act.put, List.setIfInBounds_toArray, List.set_cons_zero, List.set_cons_succ]
          refine wpAnyH_take (i := 18) (oi := ⟨_, _, _, _, _, _⟩) (v := ?v118) rfl (by kernel_rfl) (by kernel_rfl) (by kernel_rfl) (fun _ _ _ h => h) ?y118 hS ?_
          case y118 => first | (refine Or.inr ⟨by rfl, ?_⟩; with_reducible rfl) | (refine Or.inl ⟨by rfl, ?_⟩; intro wS hSw; obtain ⟨v0, v1, v2, v3, v4, v5, v6, v7, v8⟩ := nine_box ((hSw.block _ (lt_of_block H1r.out)).trans H1r.out); obtain ⟨-, -, -, -, -, t5, -⟩ := (HTr.out.later hSw).cells; rw [HWv.out, ← HTb.out] at t5; have b0 := HBy.out wS (HTr.out.later hSw).bel; go_simp; try with_reducible rfl)
          simp only [Act.put, List.setIfInBounds_toArray, List.set_cons_zero, List.set_cons_succ]
          refine wpAnyH_take (i := 19) (oi := ⟨_, _, _, _, _, _⟩) (v := ?v119) rfl (by kernel_rfl) (by kernel_rfl) (by kernel_rfl) (fun _ _ _ h => h) ?y119 hS ?_
          case y119 => first | (refine Or.inr ⟨by rfl, ?_⟩; with_reducible rfl) | (refine Or.inl ⟨by rfl, ?_⟩; intro wS hSw; obtain ⟨v0, v1, v2, v3, v4, v5, v6, v7, v8⟩ := nine_box ((hSw.block _ (lt_of_block H1r.out)).trans H1r.out); obtain ⟨-, -, -, -, -, t5, -⟩ := (HTr.out.later hSw).cells; rw [HWv.out, ← HTb.out] at t5; have b0 := HBy.out wS (HTr.out.later hSw).bel; go_simp; try with_reducible rfl)
          simp only [Act.put, List.setIfInBounds_toArray, List.set_cons_zero, List.set_cons_succ]
          refine wpAnyH_take (i := 20) (oi := ⟨_, _, _, _, _, _⟩) (v := ?v120) rfl (by kernel_rfl) (by kernel_rfl) (by kernel_rfl) (fun _ _ _ h => h) ?y120 hS ?_
          case y120 => first | (refine Or.inr ⟨by rfl, ?_⟩; with_reducible rfl) | (refine Or.inl ⟨by rfl, ?_⟩; intro wS hSw; obtain ⟨v0, v1, v2, v3, v4, v5, v6, v7, v8⟩ := nine_box ((hSw.block _ (lt_of_block H1r.out)).trans H1r.out); obtain ⟨-, -, -, -, -, t5, -⟩ := (HTr.out.later hSw).cells; rw [HWv.out, ← HTb.out] at t5; have b0 := HBy.out wS (HTr.out.later hSw).bel; go_simp; try with_reducible rfl)
          simp only [Act.put, List.setIfInBounds_toArray, List.set_cons_zero, List.set_cons_succ]
          refine wpAnyH_take (i := 21) (oi := ⟨_, _, _, _, _, _⟩) (v := ?v121) rfl (by kernel_rfl) (by kernel_rfl) (by kernel_rfl) (fun _ _ _ h => h) ?y121 hS ?_
          case y121 => first | (refine Or.inr ⟨by rfl, ?_⟩; with_reducible rfl) | (refine Or.inl ⟨by rfl, ?_⟩; intro wS hSw; obtain ⟨v0, v1, v2, v3, v4, v5, v6, v7, v8⟩ := nine_box ((hSw.block _ (lt_of_block H1r.out)).trans H1r.out); obtain ⟨-, -, -, -, -, t5, -⟩ := (HTr.out.later hSw).cells; rw [HWv.out, ← HTb.out] at t5; have b0 := HBy.out wS (HTr.out.later hSw).bel; go_simp; try with_reducible rfl)
          simp only [Act.put, List.setIfInBounds_toArray, List.set_cons_zero, List.set_cons_succ]
          refine wpAnyH_take (i := 22) (oi := ⟨_, _, _, _, _, _⟩) (v := ?v122) rfl (by kernel_rfl) (by kernel_rfl) (by kernel_rfl) (fun _ _ _ h => h) ?y122 hS ?_
          case y122 => first | (refine Or.inr ⟨by rfl, ?_⟩; with_reducible rfl) | (refine Or.inl ⟨by rfl, ?_⟩; intro wS hSw; obtain ⟨v0, v1, v2, v3, v4, v5, v6, v7, v8⟩ := nine_box ((hSw.block _ (lt_of_block H1r.out)).trans H1r.out); obtain ⟨-, -, -, -, -, t5, -⟩ := (HTr.out.later hSw).cells; rw [HWv.out, ← HTb.out] at t5; have b0 := HBy.out wS (HTr.out.later hSw).bel; go_simp; try with_reducible rfl)
          simp only [Act.put, List.setIfInBounds_toArray, List.set_cons_zero, List.set_cons_succ]
          refine wpAnyH_take (i := 23) (oi := ⟨_, _, _, _, _, _⟩) (v := ?v123) rfl (by kernel_rfl) (by kernel_rfl) (by kernel_rfl) (fun _ _ _ h => h) ?y123 hS ?_
          case y123 => first | (refine Or.inr ⟨by rfl, ?_⟩; with_reducible rfl) | (refine Or.inl ⟨by rfl, ?_⟩; intro wS hSw; obtain ⟨v0, v1, v2, v3, v4, v5, v6, v7, v8⟩ := nine_box ((hSw.block _ (lt_of_block H1r.out)).trans H1r.out); obtain ⟨-, -, -, -, -, t5, -⟩ := (HTr.out.later hSw).cells; rw [HWv.out, ← HTb.out] at t5; have b0 := HBy.out wS (HTr.out.later hSw).bel; go_simp; try with_reducible rfl)
          simp only [Act.put, List.setIfInBounds_toArray, List.set_cons_zero, List.set_cons_succ]
          refine wpAnyH_take (i := 24) (oi := ⟨_, _, _, _, _, _⟩) (v := ?v124) rfl (by kernel_rfl) (by kernel_rfl) (by kernel_rfl) (fun _ _ _ h => h) ?y124 hS ?_
          case y124 => first | (refine Or.inr ⟨by rfl, ?_⟩; with_reducible rfl) | (refine Or.inl ⟨by rfl, ?_⟩; intro wS hSw; obtain ⟨v0, v1, v2, v3, v4, v5, v6, v7, v8⟩ := nine_box ((hSw.block _ (lt_of_block H1r.out)).trans H1r.out); obtain ⟨-, -, -, -, -, t5, -⟩ := (HTr.out.later hSw).cells; rw [HWv.out, ← HTb.out] at t5; have b0 := HBy.out wS (HTr.out.later hSw).bel; go_simp; try with_reducible rfl)
          simp only [Act.put, List.setIfInBounds_toArray, List.set_cons_zero, List.set_cons_succ]
          refine wpAnyH_done (by kernel_rfl) ?_ _
          have HSf := Lib.hid hS
          clear hS
          go_wp2_with fail
          refine (miss_any (q : Int) _).mono ?_
          rintro e w1 ⟨rfl, hb1⟩
          have hu1 := HSf.out.trans (hb1.mono HSf.out.size)
          have HT1 := Lib.hid (HTr.out.later hu1)
          have HK1 := Lib.hid (KeepT.tra HKr.out (KeepT.ofBelow hu1))
          have H21 := Lib.hid ((hu1.block _ (lt_of_block H2r.out)).trans H2r.out)
          clear hb1 hu1
          obtain ⟨d0, d1, d2, d3, d4⟩ := five_box H21.out
          obtain ⟨g0, g1, g2, g3, g4⟩ := five_frz H21.out
          go_wp2
          obtain ⟨k5, hk5⟩ := set5 H21.out (.bool false) (.int .i64 0) (.int .i64 (q : Int)) (.int .i64 0) (.slice none 0 0)
          obtain ⟨q0, q1, q2, q3, q4⟩ := five_box k5
          have hxw : w.heap.size ≤ X + 1 := by have := HX.out; omega
          exact bodyPost_ret (v := .agg #[.bool false, .int .i64 0, .int .i64 (q : Int), .int .i64 0, .slice none 0 0]) (by simp [results, Tryz.f128, go_sem, q0, q1, q2, q3, q4]) rfl ⟨⟨_, rfl, .slice none 0 0, by rw [HR1.out]; rfl, by rw [HR1.out]; exact TwIn.nil _⟩, HT1.out.res H21.out (Nat.le_trans H.out.base hxw) hk5, HK1.out.endAt hxw hk5⟩
        case pos =>
          subst hcd
          have HR1 := Lib.hid (show textAt C.W (t.drop (k + 1)) (p + (k + 1)) = rr by rw [HSp.out, hc, if_pos rfl, HQe.out]; rfl)
          have e1 : ((c.toNat : Int) == (c.toNat : Int)) = true := by simp
          clear hby hc
          go_upto_region 4 with (fail)
          refine wp_region_held_drew (S := fun z => Below wr.heap.size wr z) (by kernel_rfl) (Below.refl wr.heap.size wr).drew (fun hS => ?_)
          refine wpAnyH_take (i := 0) (oi := ⟨_, _, _, _, _, _⟩) (v := ?v125) rfl (by kernel_rfl) (by kernel_rfl) (by kernel_rfl) (fun _ _ _ h => h) ?y125 hS ?_
          case y125 => first | (refine Or.inr ⟨by rfl, ?_⟩; with_reducible rfl) | (refine Or.inl ⟨by rfl, ?_⟩; intro wS hSw; obtain ⟨v0, v1, v2, v3, v4, v5, v6, v7, v8⟩ := nine_box ((hSw.block _ (lt_of_block H1r.out)).trans H1r.out); obtain ⟨-, -, -, -, -, t5, -⟩ := (HTr.out.later hSw).cells; rw [HWv.out, ← HTb.out] at t5; have b0 := HBy.out wS (HTr.out.later hSw).bel; go_simp; try with_reducible rfl)
          simp only [Act.put, List.setIfInBounds_toArray, List.set_cons_zero, List.set_cons_succ]
          refine wpAnyH_take (i := 1) (oi := ⟨_, _, _, _, _, _⟩) (v := ?v126) rfl (by kernel_rfl) (by kernel_rfl) (by kernel_rfl) (fun _ _ _ h => h) ?y126 hS ?_
          case y126 => first | (refine Or.inr ⟨by rfl, ?_⟩; with_reducible rfl) | (refine Or.inl ⟨by rfl, ?_⟩; intro wS hSw; obtain ⟨v0, v1, v2, v3, v4, v5, v6, v7, v8⟩ := nine_box ((hSw.block _ (lt_of_block H1r.out)).trans H1r.out); obtain ⟨-, -, -, -, -, t5, -⟩ := (HTr.out.later hSw).cells; rw [HWv.out, ← HTb.out] at t5; have b0 := HBy.out wS (HTr.out.later hSw).bel; go_simp; try with_reducible rfl)
          simp only [Act.put, List.setIfInBounds_toArray, List.set_cons_zero, List.set_cons_succ]
          refine wpAnyH_take (i := 2) (oi := ⟨_, _, _, _, _, _⟩) (v := ?v127) rfl (by kernel_rfl) (by kernel_rfl) (by kernel_rfl) (fun _ _ _ h => h) ?y127 hS ?_
          case y127 => first | (refine Or.inr ⟨by rfl, ?_⟩; with_reducible rfl) | (refine Or.inl ⟨by rfl, ?_⟩; intro wS hSw; obtain ⟨v0, v1, v2, v3, v4, v5, v6, v7, v8⟩ := nine_box ((hSw.block _ (lt_of_block H1r.out)).trans H1r.out); obtain ⟨-, -, -, -, -, t5, -⟩ := (HTr.out.later hSw).cells; rw [HWv.out, ← HTb.out] at t5; have b0 := HBy.out wS (HTr.out.later hSw).bel; go_simp; try with_reducible rfl)
          simp only [Act.put, List.setIfInBounds_toArray, List.set_cons_zero, List.set_cons_succ]
          refine wpAnyH_take (i := 3) (oi := ⟨_, _, _, _, _, _⟩) (v := ?v128) rfl (by kernel_rfl) (by kernel_rfl) (by kernel_rfl) (fun _ _ _ h => h) ?y128 hS ?_
          case y128 => first | (refine Or.inr ⟨by rfl, ?_⟩; with_reducible rfl) | (refine Or.inl ⟨by rfl, ?_⟩; intro wS hSw; obtain ⟨v0, v1, v2, v3, v4, v5, v6, v7, v8⟩ := nine_box ((hSw.block _ (lt_of_block H1r.out)).trans H1r.out); obtain ⟨-, -, -, -, -, t5, -⟩ := (HTr.out.later hSw).cells; rw [HWv.out, ← HTb.out] at t5; have b0 := HBy.out wS (HTr.out.later hSw).bel; go_simp; try with_reducible rfl)
          simp only [Act.put, List.setIfInBounds_toArray, List.set_cons_zero, List.set_cons_succ]
          refine wpAnyH_take (i := 4) (oi := ⟨_, _, _, _, _, _⟩) (v := ?v129) rfl (by kernel_rfl) (by kernel_rfl) (by kernel_rfl) (fun _ _ _ h => h) ?y129 hS ?_
          case y129 => first | (refine Or.inr ⟨by rfl, ?_⟩; with_reducible rfl) | (refine Or.inl ⟨by rfl, ?_⟩; intro wS hSw; obtain ⟨v0, v1, v2, v3, v4, v5, v6, v7, v8⟩ := nine_box ((hSw.block _ (lt_of_block H1r.out)).trans H1r.out); obtain ⟨-, -, -, -, -, t5, -⟩ := (HTr.out.later hSw).cells; rw [HWv.out, ← HTb.out] at t5; have b0 := HBy.out wS (HTr.out.later hSw).bel; go_simp; try with_reducible rfl)
          simp only [Act.put, List.setIfInBounds_toArray, List.set_cons_zero, List.set_cons_succ]
          refine wpAnyH_take (i := 5) (oi := ⟨_, _, _, _, _, _⟩) (v := ?v130) rfl (by kernel_rfl) (by kernel_rfl) (by kernel_rfl) (fun _ _ _ h => h) ?y130 hS ?_
          case y130 => first | (refine Or.inr ⟨by rfl, ?_⟩; with_reducible rfl) | (refine Or.inl ⟨by rfl, ?_⟩; intro wS hSw; obtain ⟨v0, v1, v2, v3, v4, v5, v6, v7, v8⟩ := nine_box ((hSw.block _ (lt_of_block H1r.out)).trans H1r.out); obtain ⟨-, -, -, -, -, t5, -⟩ := (HTr.out.later hSw).cells; rw [HWv.out, ← HTb.out] at t5; have b0 := HBy.out wS (HTr.out.later hSw).bel; go_simp; try with_reducible rfl)
          simp only [Act.put, List.setIfInBounds_toArray, List.set_cons_zero, List.set_cons_succ]
          refine wpAnyH_take (i := 6) (oi := ⟨_, _, _, _, _, _⟩) (v := ?v131) rfl (by kernel_rfl) (by kernel_rfl) (by kernel_rfl) (fun _ _ _ h => h) ?y131 hS ?_
          case y131 => first | (refine Or.inr ⟨by rfl, ?_⟩; with_reducible rfl) | (refine Or.inl ⟨by rfl, ?_⟩; intro wS hSw; obtain ⟨v0, v1, v2, v3, v4, v5, v6, v7, v8⟩ := nine_box ((hSw.block _ (lt_of_block H1r.out)).trans H1r.out); obtain ⟨-, -, -, -, -, t5, -⟩ := (HTr.out.later hSw).cells; rw [HWv.out, ← HTb.out] at t5; have b0 := HBy.out wS (HTr.out.later hSw).bel; go_simp; try with_reducible rfl)
          simp only [Act.put, List.setIfInBounds_toArray, List.set_cons_zero, List.set_cons_succ]
          refine wpAnyH_take (i := 7) (oi := ⟨_, _, _, _, _, _⟩) (v := ?v132) rfl (by kernel_rfl) (by kernel_rfl) (by kernel_rfl) (fun _ _ _ h => h) ?y132 hS ?_
          case y132 => first | (refine Or.inr ⟨by rfl, ?_⟩; with_reducible rfl) | (refine Or.inl ⟨by rfl, ?_⟩; intro wS hSw; obtain ⟨v0, v1, v2, v3, v4, v5, v6, v7, v8⟩ := nine_box ((hSw.block _ (lt_of_block H1r.out)).trans H1r.out); obtain ⟨-, -, -, -, -, t5, -⟩ := (HTr.out.later hSw).cells; rw [HWv.out, ← HTb.out] at t5; have b0 := HBy.out wS (HTr.out.later hSw).bel; go_simp; try with_reducible rfl)
          simp only [Act.put, List.setIfInBounds_toArray, List.set_cons_zero, List.set_cons_succ]
          refine wpAnyH_take (i := 8) (oi := ⟨_, _, _, _, _, _⟩) (v := ?v133) rfl (by kernel_rfl) (by kernel_rfl) (by kernel_rfl) (fun _ _ _ h => h) ?y133 hS ?_
          case y133 => first | (refine Or.inr ⟨by rfl, ?_⟩; with_reducible rfl) | (refine Or.inl ⟨by rfl, ?_⟩; intro wS hSw; obtain ⟨v0, v1, v2, v3, v4, v5, v6, v7, v8⟩ := nine_box ((hSw.block _ (lt_of_block H1r.out)).trans H1r.out); obtain ⟨-, -, -, -, -, t5, -⟩ := (HTr.out.later hSw).cells; rw [HWv.out, ← HTb.out] at t5; have b0 := HBy.out wS (HTr.out.later hSw).bel; go_simp; try with_reducible rfl)
          simp only [Act.put, List.setIfInBounds_toArray, List.set_cons_zero, List.set_cons_succ]
          refine wpAnyH_take (i := 9) (oi := ⟨_, _, _, _, _, _⟩) (v := ?v134) rfl (by kernel_rfl) (by kernel_rfl) (by kernel_rfl) (fun _ _ _ h => h) ?y134 hS ?_
          case y134 => first | (refine Or.inr ⟨by rfl, ?_⟩; with_reducible rfl) | (refine Or.inl ⟨by rfl, ?_⟩; intro wS hSw; obtain ⟨v0, v1, v2, v3, v4, v5, v6, v7, v8⟩ := nine_box ((hSw.block _ (lt_of_block H1r.out)).trans H1r.out); obtain ⟨-, -, -, -, -, t5, -⟩ := (HTr.out.later hSw).cells; rw [HWv.out, ← HTb.out] at t5; have b0 := HBy.out wS (HTr.out.later hSw).bel; go_simp; try with_reducible rfl)
          simp only [Act.put, List.setIfInBounds_toArray, List.set_cons_zero, List.set_cons_succ]
          refine wpAnyH_take (i := 10) (oi := ⟨_, _, _, _, _, _⟩) (v := ?v135) rfl (by kernel_rfl) (by kernel_rfl) (by kernel_rfl) (fun _ _ _ h => h) ?y135 hS ?_
          case y135 => first | (refine Or.inr ⟨by rfl, ?_⟩; with_reducible rfl) | (refine Or.inl ⟨by rfl, ?_⟩; intro wS hSw; obtain ⟨v0, v1, v2, v3, v4, v5, v6, v7, v8⟩ := nine_box ((hSw.block _ (lt_of_block H1r.out)).trans H1r.out); obtain ⟨-, -, -, -, -, t5, -⟩ := (HTr.out.later hSw).cells; rw [HWv.out, ← HTb.out] at t5; have b0 := HBy.out wS (HTr.out.later hSw).bel; go_simp; try with_reducible rfl)
          simp only [Act.put, List.setIfInBounds_toArray, List.set_cons_zero, List.set_cons_succ]
          refine wpAnyH_take (i := 11) (oi := ⟨_, _, _, _, _, _⟩) (v := ?v136) rfl (by kernel_rfl) (by kernel_rfl) (by kernel_rfl) (fun _ _ _ h => h) ?y136 hS ?_
          case y136 => first | (refine Or.inr ⟨by rfl, ?_⟩; with_reducible rfl) | (refine Or.inl ⟨by rfl, ?_⟩; intro wS hSw; obtain ⟨v0, v1, v2, v3, v4, v5, v6, v7, v8⟩ := nine_box ((hSw.block _ (lt_of_block H1r.out)).trans H1r.out); obtain ⟨-, -, -, -, -, t5, -⟩ := (HTr.out.later hSw).cells; rw [HWv.out, ← HTb.out] at t5; have b0 := HBy.out wS (HTr.out.later hSw).bel; go_simp; try with_reducible rfl)
          simp only [Act.put, List.setIfInBounds_toArray, List.set_cons_zero, List.set_cons_succ]
          refine wpAnyH_take (i := 12) (oi := ⟨_, _, _, _, _, _⟩) (v := ?v137) rfl (by kernel_rfl) (by kernel_rfl) (by kernel_rfl) (fun _ _ _ h => h) ?y137 hS ?_
          case y137 => first | (refine Or.inr ⟨by rfl, ?_⟩; with_reducible rfl) | (refine Or.inl ⟨by rfl, ?_⟩; intro wS hSw; obtain ⟨v0, v1, v2, v3, v4, v5, v6, v7, v8⟩ := nine_box ((hSw.block _ (lt_of_block H1r.out)).trans H1r.out); obtain ⟨-, -, -, -, -, t5, -⟩ := (HTr.out.later hSw).cells; rw [HWv.out, ← HTb.out] at t5; have b0 := HBy.out wS (HTr.out.later hSw).bel; go_simp; try with_reducible rfl)
          simp only [Act.put, List.setIfInBounds_toArray, List.set_cons_zero, List.set_cons_succ]
          refine wpAnyH_take (i := 13) (oi := ⟨_, _, _, _, _, _⟩) (v := ?v138) rfl (by kernel_rfl) (by kernel_rfl) (by kernel_rfl) (fun _ _ _ h => h) ?y138 hS ?_
          case y138 => first | (refine Or.inr ⟨by rfl, ?_⟩; with_reducible rfl) | (refine Or.inl ⟨by rfl, ?_⟩; intro wS hSw; obtain ⟨v0, v1, v2, v3, v4, v5, v6, v7, v8⟩ := nine_box ((hSw.block _ (lt_of_block H1r.out)).trans H1r.out); obtain ⟨-, -, -, -, -, t5, -⟩ := (HTr.out.later hSw).cells; rw [HWv.out, ← HTb.out] at t5; have b0 := HBy.out wS (HTr.out.later hSw).bel; go_simp; try with_reducible rfl)
          simp only [Act.put, List.setIfInBounds_toArray, List.set_cons_zero, List.set_cons_succ]
          refine wpAnyH_take (i := 14) (oi := ⟨_, _, _, _, _, _⟩) (v := ?v139) rfl (by kernel_rfl) (by kernel_rfl) (by kernel_rfl) (fun _ _ _ h => h) ?y139 hS ?_
          case y139 => first | (refine Or.inr ⟨by rfl, ?_⟩; with_reducible rfl) | (refine Or.inl ⟨by rfl, ?_⟩; intro wS hSw; obtain ⟨v0, v1, v2, v3, v4, v5, v6, v7, v8⟩ := nine_box ((hSw.block _ (lt_of_block H1r.out)).trans H1r.out); obtain ⟨-, -, -, -, -, t5, -⟩ := (HTr.out.later hSw).cells; rw [HWv.out, ← HTb.out] at t5; have b0 := HBy.out wS (HTr.out.later hSw).bel; go_simp; try with_reducible rfl)
          simp only [Act.put, List.setIfInBounds_toArray, List.set_cons_zero, List.set_cons_succ]
          refine wpAnyH_take (i := 15) (oi := ⟨_, _, _, _, _, _⟩) (v := ?v140) rfl (by kernel_rfl) (by kernel_rfl) (by kernel_rfl) (fun _ _ _ h => h) ?y140 hS ?_
          case y140 => first | (refine Or.inr ⟨by rfl, ?_⟩; with_reducible rfl) | (refine Or.inl ⟨by rfl, ?_⟩; intro wS hSw; obtain ⟨v0, v1, v2, v3, v4, v5, v6, v7, v8⟩ := nine_box ((hSw.block _ (lt_of_block H1r.out)).trans H1r.out); obtain ⟨-, -, -, -, -, t5, -⟩ := (HTr.out.later hSw).cells; rw [HWv.out, ← HTb.out] at t5; have b0 := HBy.out wS (HTr.out.later hSw).bel; go_simp; try with_reducible rfl)
          simp only [Act.put, List.setIfInBounds_toArray, List.set_cons_zero, List.set_cons_succ]
          refine wpAnyH_take (i := 16) (oi := ⟨_, _, _, _, _, _⟩) (v := ?v141) rfl (by kernel_rfl) (by kernel_rfl) (by kernel_rfl) (fun _ _ _ h => h) ?y141 hS ?_
          case y141 => first | (refine Or.inr ⟨by rfl, ?_⟩; with_reducible rfl) | (refine Or.inl ⟨by rfl, ?_⟩; intro wS hSw; obtain ⟨v0, v1, v2, v3, v4, v5, v6, v7, v8⟩ := nine_box ((hSw.block _ (lt_of_block H1r.out)).trans H1r.out); obtain ⟨-, -, -, -, -, t5, -⟩ := (HTr.out.later hSw).cells; rw [HWv.out, ← HTb.out] at t5; have b0 := HBy.out wS (HTr.out.later hSw).bel; go_simp; try with_reducible rfl)
          simp only [Act.put, List.setIfInBounds_toArray, List.set_cons_zero, List.set_cons_succ]
          refine wpAnyH_take (i := 17) (oi := ⟨_, _, _, _, _, _⟩) (v := ?v142) rfl (by kernel_rfl) (by kernel_rfl) (by kernel_rfl) (fun _ _ _ h => h) ?y142 hS ?_
          case y142 => first | (refine Or.inr ⟨by rfl, ?_⟩; with_reducible rfl) | (refine Or.inl ⟨by rfl, ?_⟩; intro wS hSw; obtain ⟨v0, v1, v2, v3, v4, v5, v6, v7, v8⟩ := nine_box ((hSw.block _ (lt_of_block H1r.out)).trans H1r.out); obtain ⟨-, -, -, -, -, t5, -⟩ := (HTr.out.later hSw).cells; rw [HWv.out, ← HTb.out] at t5; have b0 := HBy.out wS (HTr.out.later hSw).bel; go_simp; try with_reducible rfl)
          simp only [Act.put, List.setIfInBounds_toArray, List.set_cons_zero, List.set_cons_succ]
          refine wpAnyH_take (i := 18) (oi := ⟨_, _, _, _, _, _⟩) (v := ?v143) rfl (by kernel_rfl) (by kernel_rfl) (by kernel_rfl) (fun _ _ _ h => h) ?y143 hS ?_
          case y143 => first | (refine Or.inr ⟨by rfl, ?_⟩; with_reducible rfl) | (refine Or.inl ⟨by rfl, ?_⟩; intro wS hSw; obtain ⟨v0, v1, v2, v3, v4, v5, v6, v7, v8⟩ := nine_box ((hSw.block _ (lt_of_block H1r.out)).trans H1r.out); obtain ⟨-, -, -, -, -, t5, -⟩ := (HTr.out.later hSw).cells; rw [HWv.out, ← HTb.out] at t5; have b0 := HBy.out wS (HTr.out.later hSw).bel; go_simp; try with_reducible rfl)
          simp only [Act.put, List.setIfInBounds_toArray, List.set_cons_zero, List.set_cons_succ]
          refine wpAnyH_take (i := 19) (oi := ⟨_, _, _, _, _, _⟩) (v := ?v144) rfl (by kernel_rfl) (by kernel_rfl) (by kernel_rfl) (fun _ _ _ h => h) ?y144 hS ?_
          case y144 => first | (refine Or.inr ⟨by rfl, ?_⟩; with_reducible rfl) | (refine Or.inl ⟨by rfl, ?_⟩; intro wS hSw; obtain ⟨v0, v1, v2, v3, v4, v5, v6, v7, v8⟩ := nine_box ((hSw.block _ (lt_of_block H1r.out)).trans H1r.out); obtain ⟨-, -, -, -, -, t5, -⟩ := (HTr.out.later hSw).cells; rw [HWv.out, ← HTb.out] at t5; have b0 := HBy.out wS (HTr.out.later hSw).bel; go_simp; try with_reducible rfl)
          simp only [Act.put, List.setIfInBounds_toArray, List.set_cons_zero, List.set_cons_succ]
          refine wpAnyH_take (i := 20) (oi := ⟨_, _, _, _, _, _⟩) (v := ?v145) rfl (by kernel_rfl) (by kernel_rfl) (by kernel_rfl) (fun _ _ _ h => h) ?y145 hS ?_
          case y145 => first | (refine Or.inr ⟨by rfl, ?_⟩; with_reducible rfl) | (refine Or.inl ⟨by rfl, ?_⟩; intro wS hSw; obtain ⟨v0, v1, v2, v3, v4, v5, v6, v7, v8⟩ := nine_box ((hSw.block _ (lt_of_block H1r.out)).trans H1r.out); obtain ⟨-, -, -, -, -, t5, -⟩ := (HTr.out.later hSw).cells; rw [HWv.out, ← HTb.out] at t5; have b0 := HBy.out wS (HTr.out.later hSw).bel; go_simp; try with_reducible rfl)
          simp only [Act.put, List.setIfInBounds_toArray, List.set_cons_zero, List.set_cons_succ]
          refine wpAnyH_take (i := 21) (oi := ⟨_, _, _, _, _, _⟩) (v := ?v146) rfl (by kernel_rfl) (by kernel_rfl) (by kernel_rfl) (fun _ _ _ h => h) ?y146 hS ?_
          case y146 => first | (refine Or.inr ⟨by rfl, ?_⟩; with_reducible rfl) | (refine Or.inl ⟨by rfl, ?_⟩; intro wS hSw; obtain ⟨v0, v1, v2, v3, v4, v5, v6, v7, v8⟩ := nine_box ((hSw.block _ (lt_of_block H1r.out)).trans H1r.out); obtain ⟨-, -, -, -, -, t5, -⟩ := (HTr.out.later hSw).cells; rw [HWv.out, ← HTb.out] at t5; have b0 := HBy.out wS (HTr.out.later hSw).bel; go_simp; try with_reducible rfl)
          simp only [Act.put, List.setIfInBounds_toArray, List.set_cons_zero, List.set_cons_succ]
          refine wpAnyH_take (i := 22) (oi := ⟨_, _, _, _, _, _⟩) (v := ?v147) rfl (by kernel_rfl) (by kernel_rfl) (by kernel_rfl) (fun _ _ _ h => h) ?y147 hS ?_
          case y147 => first | (refine Or.inr ⟨by rfl, ?_⟩; with_reducible rfl) | (refine Or.inl ⟨by rfl, ?_⟩; intro wS hSw; obtain ⟨v0, v1, v2, v3, v4, v5, v6, v7, v8⟩ := nine_box ((hSw.block _ (lt_of_block H1r.out)).trans H1r.out); obtain ⟨-, -, -, -, -, t5, -⟩ := (HTr.out.later hSw).cells; rw [HWv.out, ← HTb.out] at t5; have b0 := HBy.out wS (HTr.out.later hSw).bel; go_simp; try with_reducible rfl)
          simp only [Act.put, List.setIfInBounds_toArray, List.set_cons_zero, List.set_cons_succ]
          refine wpAnyH_take (i := 23) (oi := ⟨_, _, _, _, _, _⟩) (v := ?v148) rfl (by kernel_rfl) (by kernel_rfl) (by kernel_rfl) (fun _ _ _ h => h) ?y148 hS ?_
          case y148 => first | (refine Or.inr ⟨by rfl, ?_⟩; with_reducible rfl) | (refine Or.inl ⟨by rfl, ?_⟩; intro wS hSw; obtain ⟨v0, v1, v2, v3, v4, v5, v6, v7, v8⟩ := nine_box ((hSw.block _ (lt_of_block H1r.out)).trans H1r.out); obtain ⟨-, -, -, -, -, t5, -⟩ := (HTr.out.later hSw).cells; rw [HWv.out, ← HTb.out] at t5; have b0 := HBy.out wS (HTr.out.later hSw).bel; go_simp; try with_reducible rfl)
          simp only [Act.put, List.setIfInBounds_toArray, List.set_cons_zero, List.set_cons_succ]
          refine wpAnyH_take (i := 24) (oi := ⟨_, _, _, _, _, _⟩) (v := ?v149) rfl (by kernel_rfl) (by kernel_rfl) (by kernel_rfl) (fun _ _ _ h => h) ?y149 hS ?_
          case y149 => first | (refine Or.inr ⟨by rfl, ?_⟩; with_reducible rfl) | (refine Or.inl ⟨by rfl, ?_⟩; intro wS hSw; obtain ⟨v0, v1, v2, v3, v4, v5, v6, v7, v8⟩ := nine_box ((hSw.block _ (lt_of_block H1r.out)).trans H1r.out); obtain ⟨-, -, -, -, -, t5, -⟩ := (HTr.out.later hSw).cells; rw [HWv.out, ← HTb.out] at t5; have b0 := HBy.out wS (HTr.out.later hSw).bel; go_simp; try with_reducible rfl)
          simp only [Act.put, List.setIfInBounds_toArray, List.set_cons_zero, List.set_cons_succ]
          refine wpAnyH_done (by kernel_rfl) ?_ _
          have HSf := Lib.hid hS
          clear hS
          go_wp2
          go_roundw
          case rel => exact ⟨k + 1, by omega, by go_num, HR1, Lib.hid (Hb.out.trans (HSf.out.mono Hb.out.size)), Lib.hid (by have := HQe.out; omega)⟩
          case measure => simp [intOf]; omega
end Go.Proofs.YtkimkghldilliaaGreat
