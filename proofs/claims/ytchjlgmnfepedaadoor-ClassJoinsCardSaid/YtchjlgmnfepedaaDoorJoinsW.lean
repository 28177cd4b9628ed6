/-
  Chapter 01: ClassJoins: the walk.
-/
import Derived.Test.YtchjlgmnfepedaaDoorRefr
import Derived.Test.YtchjlgmnfepedaaDoorTwo
namespace Go.Proofs.YtchjlgmnfepedaaDoor
open Go.RowKit Go.Lib

/-- what stays: the class's box, the copies, the originals. -/
structure JW (w0 : World) (A : Nat) (v1 v2 u1 u2 : Value) (s : Nat → Bool) (l : List (Nat → Bool)) (o : List (Nat × Nat)) (w : World) : Prop where
  pc : w.heap[A]? = some (.cells (clc s) 24 (0, 0))
  pl : ClsAt w v1 l
  po : PairsAt w v2 o
  ql : ClsAt w u1 l
  qo : PairsAt w u2 o
  bel : Below w0.heap.size w0 w
theorem JW.later {w0 w w' : World} {A : Nat} {v1 v2 u1 u2 : Value} {s : Nat → Bool} {l : List (Nat → Bool)} {o : List (Nat × Nat)} (h : JW w0 A v1 v2 u1 u2 s l o w) (hb : Below w.heap.size w w') : JW w0 A v1 v2 u1 u2 s l o w' :=
  ⟨(hb.block _ (lt_of_block h.pc)).trans h.pc, h.pl.later hb, h.po.later hb, h.ql.later hb, h.qo.later hb, h.bel.trans (hb.mono h.bel.size)⟩
theorem from_any (w : World) (v : Value) (o : List (Nat × Nat)) (hv : PairsAt w v o) (h256 : ∀ r ∈ o, r.1 < 256 ∧ r.2 < 256) :
    Calls Tryd.prog 13 #[v] w fun e w' => e = .returned (.agg #[.int .u64 (word (inRuns o) 0), .int .u64 (word (inRuns o) 1), .int .u64 (word (inRuns o) 2), .int .u64 (word (inRuns o) 3)]) ∧ Below w.heap.size w w' := class_From w v o hv h256
theorem cls_open {w : World} {v : Value} {l : List (Nat → Bool)} (h : ClsAt w v l) {k : Nat} (hk : k < l.length) : ∃ b off cap, v = .slice (some ⟨b, off, none⟩) l.length cap ∧ b < w.heap.size := by
  obtain ⟨ao, b, off, cap, rfl, _, _, _, hao, _⟩ := h
  obtain ⟨rfl, hb⟩ := hao (by omega)
  exact ⟨b, off, cap, rfl, hb⟩
theorem pairs_open {w : World} {v : Value} {o : List (Nat × Nat)} (h : PairsAt w v o) {k : Nat} (hk : k < o.length) : ∃ b off cap, v = .slice (some ⟨b, off, none⟩) o.length cap ∧ b < w.heap.size := by
  obtain ⟨ao, b, off, cap, rfl, _, _, _, hao, _⟩ := h
  obtain ⟨rfl, hb⟩ := hao (by omega)
  exact ⟨b, off, cap, rfl, hb⟩
theorem cls_at {w : World} {b off n cap : Nat} {l : List (Nat → Bool)} (h : ClsAt w (.slice (some ⟨b, off, none⟩) n cap) l) {k : Nat} (hk : k < l.length) :
    w.cell? ⟨b, off + k * 4, none⟩ = some (.int .u64 (word l[k] 0)) ∧ w.cell? ⟨b, off + k * 4 + 1, none⟩ = some (.int .u64 (word l[k] 1)) ∧ w.cell? ⟨b, off + k * 4 + 2, none⟩ = some (.int .u64 (word l[k] 2)) ∧ w.cell? ⟨b, off + k * 4 + 3, none⟩ = some (.int .u64 (word l[k] 3)) := by
  obtain ⟨ao, b', off', cap', he, _, _, _, hao, hc⟩ := h
  simp only [Value.slice.injEq] at he
  obtain ⟨h1, _⟩ := hao (by omega)
  rw [h1] at he
  simp at he
  obtain ⟨⟨rfl, rfl⟩, _⟩ := he
  exact ⟨hc k hk 0 (by omega), hc k hk 1 (by omega), hc k hk 2 (by omega), hc k hk 3 (by omega)⟩
theorem add_none' (b off j : Nat) : (⟨b, off, none⟩ : Addr).add j = ⟨b, off + j, none⟩ := by
  unfold Addr.add; split
  · simp_all
  · rfl
theorem own_empty (w : World) (t : TypeId) (size : Nat) : (w.alloc (.cells #[] t (0, 0))).ownsRow w.heap.size t size (.slice (some ⟨w.heap.size, 0, none⟩) 0 0) 0 [] :=
  ⟨by simp, .inr ⟨w.heap.size, 0, #[], rfl, Nat.le_refl _, heap_alloc_new _ _, Nat.le_refl _, by unfold maxLen; omega, by simp, by simp⟩⟩
/-- what a row of classes holds, to be appended. -/
theorem cls_news {w : World} {ao : Option Addr} {n cap : Nat} {l : List (Nat → Bool)} (h : ClsAt w (.slice ao n cap) l) : n = l.length ∧ (ao = none → l.length = 0 ∧ cap = 0) ∧ ∀ ad, ao = some ad → ∀ j u, (ccells l)[j]? = some u → w.cell? (ad.add j) = some u := by
  obtain ⟨ao', b, off, cap', he, _, _, hnil, hao, hc⟩ := h
  simp only [Value.slice.injEq] at he
  obtain ⟨rfl, rfl, rfl⟩ := he
  refine ⟨rfl, hnil, fun ad had j u hu => ?_⟩
  have hj : j < l.length * 4 := by rw [← ccells_len]; exact (List.getElem?_eq_some_iff.1 hu).1
  obtain ⟨h1, _⟩ := hao (by omega)
  rw [h1] at had
  cases had
  have hk : j / 4 < l.length := by omega
  have hg := ccells_get hk (show j % 4 < 4 by omega)
  rw [show j / 4 * 4 + j % 4 = j by omega, hu] at hg
  rw [add_none', hg, ← hc _ hk _ (by omega : j % 4 < 4)]
  congr 2
  omega
theorem pairs_news {w : World} {ao : Option Addr} {n cap : Nat} {o : List (Nat × Nat)} (h : PairsAt w (.slice ao n cap) o) : n = o.length ∧ (ao = none → o.length = 0 ∧ cap = 0) ∧ ∀ ad, ao = some ad → ∀ j u, (rcells o)[j]? = some u → w.cell? (ad.add j) = some u := by
  obtain ⟨ao', b, off, cap', he, _, _, hnil, hao, hc⟩ := h
  simp only [Value.slice.injEq] at he
  obtain ⟨rfl, rfl, rfl⟩ := he
  refine ⟨rfl, hnil, fun ad had j u hu => ?_⟩
  have hj : j < o.length * 2 := by rw [← rcells_len]; exact (List.getElem?_eq_some_iff.1 hu).1
  obtain ⟨h1, _⟩ := hao (by omega)
  rw [h1] at had
  cases had
  have hk : j / 2 < o.length := by omega
  have hg := rcells_get hk
  obtain ⟨c1, c2⟩ := hc _ hk
  rw [add_none']
  rcases (by omega : j % 2 = 0 ∨ j % 2 = 1) with hr | hr
  · have e : j / 2 * 2 = j := by omega
    have g1 := hg.1
    rw [e, hu] at g1
    rw [e] at c1
    rw [g1]; exact c1
  · have e : j / 2 * 2 + 1 = j := by omega
    have g2 := hg.2
    rw [e, hu] at g2
    rw [Nat.add_assoc, e] at c2
    rw [g2]; exact c2

set_option maxRecDepth 100000 in
set_option maxHeartbeats 4000000 in
theorem classJoins_main (w : World) (s : Nat → Bool) (v1 : Value) (l : List (Nat → Bool)) (v2 : Value) (o : List (Nat × Nat)) (hT : Tab w) (hl : ClsAt w v1 l) (ho : PairsAt w v2 o) (h256 : ∀ r ∈ o, r.1 < 256 ∧ r.2 < 256) (h400 : l.length + o.length ≤ 400) :
    Calls Tryd.prog 3 #[clv s, v1, v2] w fun e w' => e = .returned (.bool true) ∧ Below w.heap.size w w' := by
  have hpos := hT.pos
  have H256 := Lib.hid h256
  have HT := Lib.hid hT
  have HV1 := Lib.hid hl
  have HV2 := Lib.hid ho
  obtain ⟨ao1, b1, off1, cap1, rfl, -, -, -, -, -⟩ := hl
  obtain ⟨ao2, b2, off2, cap2, rfl, -, -, -, -, -⟩ := ho
  obtain ⟨nf1, hi1, hz10, hz11, hz12⟩ := info_parts Tryd.info_class
  obtain ⟨nf2, hi2, hz20, hz21, hz22⟩ := info_parts Tryd.info_run
  have g1 : ¬ ((l.length : Int) + o.length) > 400 := by omega
  have pA := heap_alloc_new w (.cells (clc s) 24)
  have hB0 := (Below.refl w.heap.size w).alloc (Nat.le_refl _) (.cells (clc s) 24)
  have PA := Lib.hid pA
  have HB0 := Lib.hid hB0
  clear h256 hT pA hB0
  unfold clv
  go_enter Tryd.func3, Tryd.ntmps3
  unfold clc at *
  obtain ⟨_, hnl1, hnw1⟩ := cls_news (HV1.out.later (((Below.refl _ _).alloc (Nat.le_refl _) (.cells #[.int .u64 (word s 0), .int .u64 (word s 1), .int .u64 (word s 2), .int .u64 (word s 3)] 24)).alloc (by simp) (.cells #[] 24)))
  have hown0 := own_empty (w.alloc (.cells #[.int .u64 (word s 0), .int .u64 (word s 1), .int .u64 (word s 2), .int .u64 (word s 3)] 24)) 24 4
  simp only [World.size_alloc] at hown0
  have HNL1 := Lib.hid hnl1
  have HNW1 := Lib.hid hnw1
  have HOW0 := Lib.hid hown0
  clear hnl1 hnw1 hown0
  go_wp2_with (at_builtin; (first | (refine wpList_append_mine _ rfl _ _ 25 rfl (w.heap.size + 1) 24 nf1 _ 4 32 Tryd.underlying25 hi1 hz10 hz11 hz12 rfl (by decide) _ 0 [] rfl HOW0.out ao1 l.length cap1 (ccells l) rfl (by rw [ccells_len]) HNL1.out HNW1.out (ccells_one l) (by unfold maxLen; omega) (by omega) (by simp) ?_; intro v1' w2 hown1 hg1 hk1; clear HNL1 HNW1 HOW0; have hb2 : Below (w.heap.size + 1) (w.alloc (.cells #[.int .u64 (word s 0), .int .u64 (word s 1), .int .u64 (word s 2), .int .u64 (word s 3)] 24)) w2 := ((Below.refl _ _).alloc (by simp) (.cells #[] 24)).grown hg1 (by simp) (fun k e => by cases e; exact Nat.le_refl _); have hbw : Below w.heap.size w w2 := HB0.out.trans (hb2.mono (by omega)); have hpc := (hb2.block _ (by omega)).trans PA.out; have hcl := cls_own (l := l) (by simpa using hown1); have HCL := Lib.hid hcl; have HPC := Lib.hid hpc; have HBW := Lib.hid hbw; obtain ⟨_, hnl2, hnw2⟩ := pairs_news ((HV2.out.later hbw).later ((Below.refl _ _).alloc (Nat.le_refl _) (.cells #[] 33))); have HNL2 := Lib.hid hnl2; have HNW2 := Lib.hid hnw2; have HOW2 := Lib.hid (own_empty w2 33 2); clear hnl2 hnw2 hb2 hbw hpc hcl hown1 hg1 hk1 PA HB0) | (refine wpList_append_mine _ rfl _ _ 26 rfl w2.heap.size 33 nf2 _ 2 2 Tryd.underlying26 hi2 hz20 hz21 hz22 rfl (by decide) _ 0 [] rfl HOW2.out ao2 o.length cap2 (rcells o) rfl (by rw [rcells_len]) HNL2.out HNW2.out (rcells_one o) (by unfold maxLen; omega) (by omega) (by simp) ?_; intro v2' w3 hown2 hg2 hk2; clear HNL2 HNW2 HOW2)))
  have hb3 : Below w2.heap.size w2 w3 := ((Below.refl _ _).alloc (Nat.le_refl _) (.cells #[] 33)).grown hg2 (by simp) (fun k e => by cases e; exact Nat.le_refl _)
  have HS : Hid (JW w w.heap.size v1' v2' (.slice ao1 l.length cap1) (.slice ao2 o.length cap2) s l o w3) := Lib.hid ⟨(hb3.block _ (lt_of_block HPC.out)).trans HPC.out, HCL.out.later hb3, pairs_own (o := o) (by simpa using hown2), (HV1.out.later HBW.out).later hb3, (HV2.out.later HBW.out).later hb3, HBW.out.trans (hb3.mono HBW.out.size)⟩
  clear hb3 hown2 hg2 hk2 HPC HCL HBW HV1 HV2
  go_wp2_with fail
  refine wp_region_held_drew (S := JW w w.heap.size v1' v2' (.slice ao1 l.length cap1) (.slice ao2 o.length cap2) s l o) (by kernel_rfl) (HS.out.later ⟨rfl, rfl, rfl, Nat.le_refl _, fun _ _ => rfl⟩) (fun hS => ?_)
  refine wpAnyH_take (i := 0) (oi := ⟨_, _, _, _, _, _⟩) (v := ?v1) rfl (by kernel_rfl) (by kernel_rfl) (by kernel_rfl) (fun _ _ _ h => h) ?y1 hS ?_
  case y1 => first | (refine Or.inr ⟨by rfl, ?_⟩; with_reducible rfl) | (refine Or.inl ⟨by rfl, ?_⟩; intro wS hSw; obtain ⟨q0, q1, q2, q3⟩ := cls_cells hSw.pc; go_simp; try with_reducible rfl)
  simp only [Act.put, List.setIfInBounds_toArray, List.set_cons_zero, List.set_cons_succ]
  refine wpAnyH_take (i := 2) (oi := ⟨_, _, _, _, _, _⟩) (v := ?v2) rfl (by kernel_rfl) (by kernel_rfl) (by kernel_rfl) (fun _ _ _ h => h) ?y2 hS ?_
  case y2 => first | (refine Or.inr ⟨by rfl, ?_⟩; with_reducible rfl) | (refine Or.inl ⟨by rfl, ?_⟩; intro wS hSw; obtain ⟨q0, q1, q2, q3⟩ := cls_cells hSw.pc; go_simp; try with_reducible rfl)
  simp only [Act.put, List.setIfInBounds_toArray, List.set_cons_zero, List.set_cons_succ]
  refine wpAnyH_ready (rs := [1]) (by kernel_rfl) (by simp) ?_
  refine AllReadyH.cons (o := ⟨_, _, _, _, _, _⟩) rfl (fun K hK => ?_) AllReadyH.nil
  go_simp
  refine (not1 _ s (clNot s) rfl).mono ?_
  rintro e wx ⟨rfl, hb⟩
  go_wp2_with fail
  refine hK.out _ _ (hS.later hb) (fun hS => ?_)
  clear hK K
  try simp only [Act.put, List.setIfInBounds_toArray, List.set_cons_zero, List.set_cons_succ]
  clear hb
  refine wpAnyH_ready (rs := [3]) (by kernel_rfl) (by simp) ?_
  refine AllReadyH.cons (o := ⟨_, _, _, _, _, _⟩) rfl (fun K hK => ?_) AllReadyH.nil
  go_simp
  refine (ref_Not _ s).mono ?_
  rintro e wx ⟨rfl, hb⟩
  go_wp2_with fail
  refine hK.out _ _ (hS.later hb) (fun hS => ?_)
  clear hK K
  try simp only [Act.put, List.setIfInBounds_toArray, List.set_cons_zero, List.set_cons_succ]
  clear hb
  unfold clv clc
  have hq := eqa_same (clNot s)
  refine wpAnyH_take (i := 4) (oi := ⟨_, _, _, _, _, _⟩) (v := ?v3) rfl (by kernel_rfl) (by kernel_rfl) (by kernel_rfl) (fun _ _ _ h => h) ?y3 hS ?_
  case y3 => first | (refine Or.inr ⟨by rfl, ?_⟩; with_reducible rfl) | (refine Or.inl ⟨by rfl, ?_⟩; intro wS hSw; go_simp; try with_reducible rfl)
  simp only [Act.put, List.setIfInBounds_toArray, List.set_cons_zero, List.set_cons_succ]
  refine wpAnyH_take (i := 5) (oi := ⟨_, _, _, _, _, _⟩) (v := ?v4) rfl (by kernel_rfl) (by kernel_rfl) (by kernel_rfl) (fun _ _ _ h => h) ?y4 hS ?_
  case y4 => first | (refine Or.inr ⟨by rfl, ?_⟩; with_reducible rfl) | (refine Or.inl ⟨by rfl, ?_⟩; intro wS hSw; go_simp; try with_reducible rfl)
  simp only [Act.put, List.setIfInBounds_toArray, List.set_cons_zero, List.set_cons_succ]
  refine wpAnyH_take (i := 6) (oi := ⟨_, _, _, _, _, _⟩) (v := ?v5) rfl (by kernel_rfl) (by kernel_rfl) (by kernel_rfl) (fun _ _ _ h => h) ?y5 hS ?_
  case y5 => first | (refine Or.inr ⟨by rfl, ?_⟩; with_reducible rfl) | (refine Or.inl ⟨by rfl, ?_⟩; intro wS hSw; go_simp; try with_reducible rfl)
  simp only [Act.put, List.setIfInBounds_toArray, List.set_cons_zero, List.set_cons_succ]
  refine wpAnyH_take (i := 8) (oi := ⟨_, _, _, _, _, _⟩) (v := ?v6) rfl (by kernel_rfl) (by kernel_rfl) (by kernel_rfl) (fun _ _ _ h => h) ?y6 hS ?_
  case y6 => first | (refine Or.inr ⟨by rfl, ?_⟩; with_reducible rfl) | (refine Or.inl ⟨by rfl, ?_⟩; intro wS hSw; go_simp; try with_reducible rfl)
  simp only [Act.put, List.setIfInBounds_toArray, List.set_cons_zero, List.set_cons_succ]
  refine wpAnyH_ready (rs := [7]) (by kernel_rfl) (by simp) ?_
  refine AllReadyH.cons (o := ⟨_, _, _, _, _, _⟩) rfl (fun K hK => ?_) AllReadyH.nil
  go_simp
  refine (or_at _ _ l _ rfl hS.pl).mono ?_
  rintro e wx ⟨rfl, hb⟩
  go_wp2_with fail
  refine hK.out _ _ (hS.later hb) (fun hS => ?_)
  clear hK K
  try simp only [Act.put, List.setIfInBounds_toArray, List.set_cons_zero, List.set_cons_succ]
  clear hb
  refine wpAnyH_ready (rs := [9]) (by kernel_rfl) (by simp) ?_
  refine AllReadyH.cons (o := ⟨_, _, _, _, _, _⟩) rfl (fun K hK => ?_) AllReadyH.nil
  go_simp
  refine (ref_Or _ l _ hS.ql).mono ?_
  rintro e wx ⟨rfl, hb⟩
  go_wp2_with fail
  refine hK.out _ _ (hS.later hb) (fun hS => ?_)
  clear hK K
  try simp only [Act.put, List.setIfInBounds_toArray, List.set_cons_zero, List.set_cons_succ]
  clear hb
  unfold clv clc
  have hq := eqa_same (clFold clNone l)
  refine wpAnyH_take (i := 10) (oi := ⟨_, _, _, _, _, _⟩) (v := ?v7) rfl (by kernel_rfl) (by kernel_rfl) (by kernel_rfl) (fun _ _ _ h => h) ?y7 hS ?_
  case y7 => first | (refine Or.inr ⟨by rfl, ?_⟩; with_reducible rfl) | (refine Or.inl ⟨by rfl, ?_⟩; intro wS hSw; go_simp; try with_reducible rfl)
  simp only [Act.put, List.setIfInBounds_toArray, List.set_cons_zero, List.set_cons_succ]
  refine wpAnyH_take (i := 11) (oi := ⟨_, _, _, _, _, _⟩) (v := ?v8) rfl (by kernel_rfl) (by kernel_rfl) (by kernel_rfl) (fun _ _ _ h => h) ?y8 hS ?_
  case y8 => first | (refine Or.inr ⟨by rfl, ?_⟩; with_reducible rfl) | (refine Or.inl ⟨by rfl, ?_⟩; intro wS hSw; go_simp; try with_reducible rfl)
  simp only [Act.put, List.setIfInBounds_toArray, List.set_cons_zero, List.set_cons_succ]
  refine wpAnyH_take (i := 12) (oi := ⟨_, _, _, _, _, _⟩) (v := ?v9) rfl (by kernel_rfl) (by kernel_rfl) (by kernel_rfl) (fun _ _ _ h => h) ?y9 hS ?_
  case y9 => first | (refine Or.inr ⟨by rfl, ?_⟩; with_reducible rfl) | (refine Or.inl ⟨by rfl, ?_⟩; intro wS hSw; go_simp; try with_reducible rfl)
  simp only [Act.put, List.setIfInBounds_toArray, List.set_cons_zero, List.set_cons_succ]
  refine wpAnyH_take (i := 13) (oi := ⟨_, _, _, _, _, _⟩) (v := ?v10) rfl (by kernel_rfl) (by kernel_rfl) (by kernel_rfl) (fun _ _ _ h => h) ?y10 hS ?_
  case y10 => first | (refine Or.inr ⟨by rfl, ?_⟩; with_reducible rfl) | (refine Or.inl ⟨by rfl, ?_⟩; intro wS hSw; go_simp; try with_reducible rfl)
  simp only [Act.put, List.setIfInBounds_toArray, List.set_cons_zero, List.set_cons_succ]
  refine wpAnyH_take (i := 15) (oi := ⟨_, _, _, _, _, _⟩) (v := ?v11) rfl (by kernel_rfl) (by kernel_rfl) (by kernel_rfl) (fun _ _ _ h => h) ?y11 hS ?_
  case y11 => first | (refine Or.inr ⟨by rfl, ?_⟩; with_reducible rfl) | (refine Or.inl ⟨by rfl, ?_⟩; intro wS hSw; go_simp; try with_reducible rfl)
  simp only [Act.put, List.setIfInBounds_toArray, List.set_cons_zero, List.set_cons_succ]
  refine wpAnyH_ready (rs := [14]) (by kernel_rfl) (by simp) ?_
  refine AllReadyH.cons (o := ⟨_, _, _, _, _, _⟩) rfl (fun K hK => ?_) AllReadyH.nil
  go_simp
  refine (and_at _ _ l _ rfl hS.pl).mono ?_
  rintro e wx ⟨rfl, hb⟩
  go_wp2_with fail
  refine hK.out _ _ (hS.later hb) (fun hS => ?_)
  clear hK K
  try simp only [Act.put, List.setIfInBounds_toArray, List.set_cons_zero, List.set_cons_succ]
  clear hb
  refine wpAnyH_ready (rs := [16]) (by kernel_rfl) (by simp) ?_
  refine AllReadyH.cons (o := ⟨_, _, _, _, _, _⟩) rfl (fun K hK => ?_) AllReadyH.nil
  go_simp
  refine (ref_And _ l _ hS.ql).mono ?_
  rintro e wx ⟨rfl, hb⟩
  go_wp2_with fail
  refine hK.out _ _ (hS.later hb) (fun hS => ?_)
  clear hK K
  try simp only [Act.put, List.setIfInBounds_toArray, List.set_cons_zero, List.set_cons_succ]
  clear hb
  unfold clv clc
  have hq := eqa_same (clFoldA (clNot clNone) l)
  refine wpAnyH_take (i := 17) (oi := ⟨_, _, _, _, _, _⟩) (v := ?v12) rfl (by kernel_rfl) (by kernel_rfl) (by kernel_rfl) (fun _ _ _ h => h) ?y12 hS ?_
  case y12 => first | (refine Or.inr ⟨by rfl, ?_⟩; with_reducible rfl) | (refine Or.inl ⟨by rfl, ?_⟩; intro wS hSw; go_simp; try with_reducible rfl)
  simp only [Act.put, List.setIfInBounds_toArray, List.set_cons_zero, List.set_cons_succ]
  refine wpAnyH_take (i := 18) (oi := ⟨_, _, _, _, _, _⟩) (v := ?v13) rfl (by kernel_rfl) (by kernel_rfl) (by kernel_rfl) (fun _ _ _ h => h) ?y13 hS ?_
  case y13 => first | (refine Or.inr ⟨by rfl, ?_⟩; with_reducible rfl) | (refine Or.inl ⟨by rfl, ?_⟩; intro wS hSw; go_simp; try with_reducible rfl)
  simp only [Act.put, List.setIfInBounds_toArray, List.set_cons_zero, List.set_cons_succ]
  refine wpAnyH_take (i := 19) (oi := ⟨_, _, _, _, _, _⟩) (v := ?v14) rfl (by kernel_rfl) (by kernel_rfl) (by kernel_rfl) (fun _ _ _ h => h) ?y14 hS ?_
  case y14 => first | (refine Or.inr ⟨by rfl, ?_⟩; with_reducible rfl) | (refine Or.inl ⟨by rfl, ?_⟩; intro wS hSw; go_simp; try with_reducible rfl)
  simp only [Act.put, List.setIfInBounds_toArray, List.set_cons_zero, List.set_cons_succ]
  refine wpAnyH_take (i := 20) (oi := ⟨_, _, _, _, _, _⟩) (v := ?v15) rfl (by kernel_rfl) (by kernel_rfl) (by kernel_rfl) (fun _ _ _ h => h) ?y15 hS ?_
  case y15 => first | (refine Or.inr ⟨by rfl, ?_⟩; with_reducible rfl) | (refine Or.inl ⟨by rfl, ?_⟩; intro wS hSw; go_simp; try with_reducible rfl)
  simp only [Act.put, List.setIfInBounds_toArray, List.set_cons_zero, List.set_cons_succ]
  refine wpAnyH_take (i := 22) (oi := ⟨_, _, _, _, _, _⟩) (v := ?v16) rfl (by kernel_rfl) (by kernel_rfl) (by kernel_rfl) (fun _ _ _ h => h) ?y16 hS ?_
  case y16 => first | (refine Or.inr ⟨by rfl, ?_⟩; with_reducible rfl) | (refine Or.inl ⟨by rfl, ?_⟩; intro wS hSw; go_simp; try with_reducible rfl)
  simp only [Act.put, List.setIfInBounds_toArray, List.set_cons_zero, List.set_cons_succ]
  refine wpAnyH_ready (rs := [21]) (by kernel_rfl) (by simp) ?_
  refine AllReadyH.cons (o := ⟨_, _, _, _, _, _⟩) rfl (fun K hK => ?_) AllReadyH.nil
  go_simp
  refine (from_any _ _ o hS.po H256.out).mono ?_
  rintro e wx ⟨rfl, hb⟩
  go_wp2_with fail
  refine hK.out _ _ (hS.later hb) (fun hS => ?_)
  clear hK K
  try simp only [Act.put, List.setIfInBounds_toArray, List.set_cons_zero, List.set_cons_succ]
  clear hb
  refine wpAnyH_ready (rs := [23]) (by kernel_rfl) (by simp) ?_
  refine AllReadyH.cons (o := ⟨_, _, _, _, _, _⟩) rfl (fun K hK => ?_) AllReadyH.nil
  go_simp
  refine (ref_From _ _ o hS.qo H256.out (by omega)).mono ?_
  rintro e wx ⟨rfl, hb⟩
  go_wp2_with fail
  refine hK.out _ _ (hS.later hb) (fun hS => ?_)
  clear hK K
  try simp only [Act.put, List.setIfInBounds_toArray, List.set_cons_zero, List.set_cons_succ]
  clear hb
  unfold clv clc
  have hq := eqa_same (inRuns o)
  refine wpAnyH_take (i := 24) (oi := ⟨_, _, _, _, _, _⟩) (v := ?v17) rfl (by kernel_rfl) (by kernel_rfl) (by kernel_rfl) (fun _ _ _ h => h) ?y17 hS ?_
  case y17 => first | (refine Or.inr ⟨by rfl, ?_⟩; with_reducible rfl) | (refine Or.inl ⟨by rfl, ?_⟩; intro wS hSw; go_simp; try with_reducible rfl)
  simp only [Act.put, List.setIfInBounds_toArray, List.set_cons_zero, List.set_cons_succ]
  refine wpAnyH_take (i := 25) (oi := ⟨_, _, _, _, _, _⟩) (v := ?v18) rfl (by kernel_rfl) (by kernel_rfl) (by kernel_rfl) (fun _ _ _ h => h) ?y18 hS ?_
  case y18 => first | (refine Or.inr ⟨by rfl, ?_⟩; with_reducible rfl) | (refine Or.inl ⟨by rfl, ?_⟩; intro wS hSw; go_simp; try with_reducible rfl)
  simp only [Act.put, List.setIfInBounds_toArray, List.set_cons_zero, List.set_cons_succ]
  refine wpAnyH_take (i := 26) (oi := ⟨_, _, _, _, _, _⟩) (v := ?v19) rfl (by kernel_rfl) (by kernel_rfl) (by kernel_rfl) (fun _ _ _ h => h) ?y19 hS ?_
  case y19 => first | (refine Or.inr ⟨by rfl, ?_⟩; with_reducible rfl) | (refine Or.inl ⟨by rfl, ?_⟩; intro wS hSw; go_simp; try with_reducible rfl)
  simp only [Act.put, List.setIfInBounds_toArray, List.set_cons_zero, List.set_cons_succ]
  refine wpAnyH_done (by kernel_rfl) ?_ _
  have HS4 := Lib.hid hS
  clear hS HS
  go_wp2_with fail
  go_loopw [9, 10] (fun ok i wx => ∃ k : Nat, k ≤ l.length ∧ i = .int .i64 k ∧ ok = .bool true ∧ JW w w.heap.size v1' v2' (.slice ao1 l.length cap1) (.slice ao2 o.length cap2) s l o wx) (fun _ i _ => l.length - (intOf i).toNat)
  case atStart => exact ⟨0, by omega, rfl, rfl, HS4.out⟩
  case round =>
    obtain ⟨k, hk, rfl, rfl, hR⟩ := hrel
    have HSk := Lib.hid hR
    by_cases hlt : k < l.length
    · have hltI : (k : Int) < l.length := by omega
      have HL := Lib.hid hlt
      obtain ⟨x1, y1, c1, e1, b1⟩ := cls_open hR.pl hlt
      obtain ⟨x2, y2, c2, e2, b2⟩ := cls_open hR.ql hlt
      subst e1
      cases e2
      clear hR b1 b2
      go_wp2_with fail
      refine wp_region_held_drew (S := JW w w.heap.size (.slice (some ⟨x1, y1, none⟩) l.length c1) v2' (.slice (some ⟨x2, y2, none⟩) l.length cap1) (.slice ao2 o.length cap2) s l o) (by kernel_rfl) (HSk.out.later ⟨rfl, rfl, rfl, Nat.le_refl _, fun _ _ => rfl⟩) (fun hS => ?_)
      refine wpAnyH_take (i := 0) (oi := ⟨_, _, _, _, _, _⟩) (v := ?v20) rfl (by kernel_rfl) (by kernel_rfl) (by kernel_rfl) (fun _ _ _ h => h) ?y20 hS ?_
      case y20 => first | (refine Or.inr ⟨by rfl, ?_⟩; with_reducible rfl) | (refine Or.inl ⟨by rfl, ?_⟩; intro wS hSw; go_simp; try with_reducible rfl)
      simp only [Act.put, List.setIfInBounds_toArray, List.set_cons_zero, List.set_cons_succ]
      refine wpAnyH_take (i := 1) (oi := ⟨_, _, _, _, _, _⟩) (v := ?v21) rfl (by kernel_rfl) (by kernel_rfl) (by kernel_rfl) (fun _ _ _ h => h) ?y21 hS ?_
      case y21 => first | (refine Or.inr ⟨by rfl, ?_⟩; with_reducible rfl) | (refine Or.inl ⟨by rfl, ?_⟩; intro wS hSw; go_simp; try with_reducible rfl)
      simp only [Act.put, List.setIfInBounds_toArray, List.set_cons_zero, List.set_cons_succ]
      refine wpAnyH_take (i := 2) (oi := ⟨_, _, _, _, _, _⟩) (v := ?v22) rfl (by kernel_rfl) (by kernel_rfl) (by kernel_rfl) (fun _ _ _ h => h) ?y22 hS ?_
      case y22 => first | (refine Or.inr ⟨by rfl, ?_⟩; with_reducible rfl) | (refine Or.inl ⟨by rfl, ?_⟩; intro wS hSw; go_simp; try with_reducible rfl)
      simp only [Act.put, List.setIfInBounds_toArray, List.set_cons_zero, List.set_cons_succ]
      refine wpAnyH_take (i := 3) (oi := ⟨_, _, _, _, _, _⟩) (v := ?v23) rfl (by kernel_rfl) (by kernel_rfl) (by kernel_rfl) (fun _ _ _ h => h) ?y23 hS ?_
      case y23 => first | (refine Or.inr ⟨by rfl, ?_⟩; with_reducible rfl) | (refine Or.inl ⟨by rfl, ?_⟩; intro wS hSw; go_simp; try with_reducible rfl)
      simp only [Act.put, List.setIfInBounds_toArray, List.set_cons_zero, List.set_cons_succ]
      refine wpAnyH_take (i := 4) (oi := ⟨_, _, _, _, _, _⟩) (v := ?v24) rfl (by kernel_rfl) (by kernel_rfl) (by kernel_rfl) (fun _ _ _ h => h) ?y24 hS ?_
      case y24 => first | (refine Or.inr ⟨by rfl, ?_⟩; with_reducible rfl) | (refine Or.inl ⟨by rfl, ?_⟩; intro wS hSw; go_simp; try with_reducible rfl)
      simp only [Act.put, List.setIfInBounds_toArray, List.set_cons_zero, List.set_cons_succ]
      refine wpAnyH_take (i := 5) (oi := ⟨_, _, _, _, _, _⟩) (v := ?v25) rfl (by kernel_rfl) (by kernel_rfl) (by kernel_rfl) (fun _ _ _ h => h) ?y25 hS ?_
      case y25 => first | (refine Or.inr ⟨by rfl, ?_⟩; with_reducible rfl) | (refine Or.inl ⟨by rfl, ?_⟩; intro wS hSw; obtain ⟨q0, q1, q2, q3⟩ := cls_at hSw.pl HL.out; go_simp; try with_reducible rfl)
      simp only [Act.put, List.setIfInBounds_toArray, List.set_cons_zero, List.set_cons_succ]
      refine wpAnyH_take (i := 6) (oi := ⟨_, _, _, _, _, _⟩) (v := ?v26) rfl (by kernel_rfl) (by kernel_rfl) (by kernel_rfl) (fun _ _ _ h => h) ?y26 hS ?_
      case y26 => first | (refine Or.inr ⟨by rfl, ?_⟩; with_reducible rfl) | (refine Or.inl ⟨by rfl, ?_⟩; intro wS hSw; go_simp; try with_reducible rfl)
      simp only [Act.put, List.setIfInBounds_toArray, List.set_cons_zero, List.set_cons_succ]
      refine wpAnyH_take (i := 7) (oi := ⟨_, _, _, _, _, _⟩) (v := ?v27) rfl (by kernel_rfl) (by kernel_rfl) (by kernel_rfl) (fun _ _ _ h => h) ?y27 hS ?_
      case y27 => first | (refine Or.inr ⟨by rfl, ?_⟩; with_reducible rfl) | (refine Or.inl ⟨by rfl, ?_⟩; intro wS hSw; go_simp; try with_reducible rfl)
      simp only [Act.put, List.setIfInBounds_toArray, List.set_cons_zero, List.set_cons_succ]
      refine wpAnyH_take (i := 8) (oi := ⟨_, _, _, _, _, _⟩) (v := ?v28) rfl (by kernel_rfl) (by kernel_rfl) (by kernel_rfl) (fun _ _ _ h => h) ?y28 hS ?_
      case y28 => first | (refine Or.inr ⟨by rfl, ?_⟩; with_reducible rfl) | (refine Or.inl ⟨by rfl, ?_⟩; intro wS hSw; go_simp; try with_reducible rfl)
      simp only [Act.put, List.setIfInBounds_toArray, List.set_cons_zero, List.set_cons_succ]
      refine wpAnyH_take (i := 9) (oi := ⟨_, _, _, _, _, _⟩) (v := ?v29) rfl (by kernel_rfl) (by kernel_rfl) (by kernel_rfl) (fun _ _ _ h => h) ?y29 hS ?_
      case y29 => first | (refine Or.inr ⟨by rfl, ?_⟩; with_reducible rfl) | (refine Or.inl ⟨by rfl, ?_⟩; intro wS hSw; obtain ⟨q0, q1, q2, q3⟩ := cls_at hSw.ql HL.out; go_simp; try with_reducible rfl)
      simp only [Act.put, List.setIfInBounds_toArray, List.set_cons_zero, List.set_cons_succ]
      have hq := eqa_same (l[k]'HL.out)
      refine wpAnyH_take (i := 10) (oi := ⟨_, _, _, _, _, _⟩) (v := ?v30) rfl (by kernel_rfl) (by kernel_rfl) (by kernel_rfl) (fun _ _ _ h => h) ?y30 hS ?_
      case y30 => first | (refine Or.inr ⟨by rfl, ?_⟩; with_reducible rfl) | (refine Or.inl ⟨by rfl, ?_⟩; intro wS hSw; go_simp; try with_reducible rfl)
      simp only [Act.put, List.setIfInBounds_toArray, List.set_cons_zero, List.set_cons_succ]
      refine wpAnyH_take (i := 11) (oi := ⟨_, _, _, _, _, _⟩) (v := ?v31) rfl (by kernel_rfl) (by kernel_rfl) (by kernel_rfl) (fun _ _ _ h => h) ?y31 hS ?_
      case y31 => first | (refine Or.inr ⟨by rfl, ?_⟩; with_reducible rfl) | (refine Or.inl ⟨by rfl, ?_⟩; intro wS hSw; go_simp; try with_reducible rfl)
      simp only [Act.put, List.setIfInBounds_toArray, List.set_cons_zero, List.set_cons_succ]
      refine wpAnyH_take (i := 12) (oi := ⟨_, _, _, _, _, _⟩) (v := ?v32) rfl (by kernel_rfl) (by kernel_rfl) (by kernel_rfl) (fun _ _ _ h => h) ?y32 hS ?_
      case y32 => first | (refine Or.inr ⟨by rfl, ?_⟩; with_reducible rfl) | (refine Or.inl ⟨by rfl, ?_⟩; intro wS hSw; go_simp; try with_reducible rfl)
      simp only [Act.put, List.setIfInBounds_toArray, List.set_cons_zero, List.set_cons_succ]
      refine wpAnyH_done (by kernel_rfl) ?_ _
      go_wp2_with fail
      go_roundw
      case rel => exact ⟨k + 1, by omega, by go_num, rfl, hS⟩
      case measure => simp [intOf]; omega
    · have hltI : ¬ (k : Int) < l.length := by omega
      clear hR
      go_wp2_with fail
      go_loopw [9, 11] (fun ok i wx => ∃ k : Nat, k ≤ o.length ∧ i = .int .i64 k ∧ ok = .bool true ∧ JW w w.heap.size v1' v2' (.slice ao1 l.length cap1) (.slice ao2 o.length cap2) s l o wx) (fun _ i _ => o.length - (intOf i).toNat)
      case atStart => exact ⟨0, by omega, rfl, rfl, HSk.out⟩
      case round =>
        obtain ⟨k, hk, rfl, rfl, hR⟩ := hrel
        have HSk := Lib.hid hR
        by_cases hlt : k < o.length
        · have hltI : (k : Int) < o.length := by omega
          have HL := Lib.hid hlt
          obtain ⟨x1, y1, c1, e1, b1⟩ := pairs_open hR.po hlt
          obtain ⟨x2, y2, c2, e2, b2⟩ := pairs_open hR.qo hlt
          subst e1
          cases e2
          clear hR b1 b2
          go_wp2_with fail
          refine wp_region_held_drew (S := JW w w.heap.size v1' (.slice (some ⟨x1, y1, none⟩) o.length c1) (.slice ao1 l.length cap1) (.slice (some ⟨x2, y2, none⟩) o.length cap2) s l o) (by kernel_rfl) (HSk.out.later ⟨rfl, rfl, rfl, Nat.le_refl _, fun _ _ => rfl⟩) (fun hS => ?_)
          refine wpAnyH_take (i := 0) (oi := ⟨_, _, _, _, _, _⟩) (v := ?v33) rfl (by kernel_rfl) (by kernel_rfl) (by kernel_rfl) (fun _ _ _ h => h) ?y33 hS ?_
          case y33 => first | (refine Or.inr ⟨by rfl, ?_⟩; with_reducible rfl) | (refine Or.inl ⟨by rfl, ?_⟩; intro wS hSw; go_simp; try with_reducible rfl)
          simp only [Act.put, List.setIfInBounds_toArray, List.set_cons_zero, List.set_cons_succ]
          refine wpAnyH_take (i := 1) (oi := ⟨_, _, _, _, _, _⟩) (v := ?v34) rfl (by kernel_rfl) (by kernel_rfl) (by kernel_rfl) (fun _ _ _ h => h) ?y34 hS ?_
          case y34 => first | (refine Or.inr ⟨by rfl, ?_⟩; with_reducible rfl) | (refine Or.inl ⟨by rfl, ?_⟩; intro wS hSw; go_simp; try with_reducible rfl)
          simp only [Act.put, List.setIfInBounds_toArray, List.set_cons_zero, List.set_cons_succ]
          refine wpAnyH_take (i := 2) (oi := ⟨_, _, _, _, _, _⟩) (v := ?v35) rfl (by kernel_rfl) (by kernel_rfl) (by kernel_rfl) (fun _ _ _ h => h) ?y35 hS ?_
          case y35 => first | (refine Or.inr ⟨by rfl, ?_⟩; with_reducible rfl) | (refine Or.inl ⟨by rfl, ?_⟩; intro wS hSw; go_simp; try with_reducible rfl)
          simp only [Act.put, List.setIfInBounds_toArray, List.set_cons_zero, List.set_cons_succ]
          refine wpAnyH_take (i := 3) (oi := ⟨_, _, _, _, _, _⟩) (v := ?v36) rfl (by kernel_rfl) (by kernel_rfl) (by kernel_rfl) (fun _ _ _ h => h) ?y36 hS ?_
          case y36 => first | (refine Or.inr ⟨by rfl, ?_⟩; with_reducible rfl) | (refine Or.inl ⟨by rfl, ?_⟩; intro wS hSw; go_simp; try with_reducible rfl)
          simp only [Act.put, List.setIfInBounds_toArray, List.set_cons_zero, List.set_cons_succ]
          refine wpAnyH_take (i := 4) (oi := ⟨_, _, _, _, _, _⟩) (v := ?v37) rfl (by kernel_rfl) (by kernel_rfl) (by kernel_rfl) (fun _ _ _ h => h) ?y37 hS ?_
          case y37 => first | (refine Or.inr ⟨by rfl, ?_⟩; with_reducible rfl) | (refine Or.inl ⟨by rfl, ?_⟩; intro wS hSw; go_simp; try with_reducible rfl)
          simp only [Act.put, List.setIfInBounds_toArray, List.set_cons_zero, List.set_cons_succ]
          refine wpAnyH_take (i := 5) (oi := ⟨_, _, _, _, _, _⟩) (v := ?v38) rfl (by kernel_rfl) (by kernel_rfl) (by kernel_rfl) (fun _ _ _ h => h) ?y38 hS ?_
          case y38 => first | (refine Or.inr ⟨by rfl, ?_⟩; with_reducible rfl) | (refine Or.inl ⟨by rfl, ?_⟩; intro wS hSw; obtain ⟨q0, q1⟩ := pairs_cell hSw.po HL.out; go_simp; try with_reducible rfl)
          simp only [Act.put, List.setIfInBounds_toArray, List.set_cons_zero, List.set_cons_succ]
          refine wpAnyH_take (i := 6) (oi := ⟨_, _, _, _, _, _⟩) (v := ?v39) rfl (by kernel_rfl) (by kernel_rfl) (by kernel_rfl) (fun _ _ _ h => h) ?y39 hS ?_
          case y39 => first | (refine Or.inr ⟨by rfl, ?_⟩; with_reducible rfl) | (refine Or.inl ⟨by rfl, ?_⟩; intro wS hSw; go_simp; try with_reducible rfl)
          simp only [Act.put, List.setIfInBounds_toArray, List.set_cons_zero, List.set_cons_succ]
          refine wpAnyH_take (i := 7) (oi := ⟨_, _, _, _, _, _⟩) (v := ?v40) rfl (by kernel_rfl) (by kernel_rfl) (by kernel_rfl) (fun _ _ _ h => h) ?y40 hS ?_
          case y40 => first | (refine Or.inr ⟨by rfl, ?_⟩; with_reducible rfl) | (refine Or.inl ⟨by rfl, ?_⟩; intro wS hSw; go_simp; try with_reducible rfl)
          simp only [Act.put, List.setIfInBounds_toArray, List.set_cons_zero, List.set_cons_succ]
          refine wpAnyH_take (i := 8) (oi := ⟨_, _, _, _, _, _⟩) (v := ?v41) rfl (by kernel_rfl) (by kernel_rfl) (by kernel_rfl) (fun _ _ _ h => h) ?y41 hS ?_
          case y41 => first | (refine Or.inr ⟨by rfl, ?_⟩; with_reducible rfl) | (refine Or.inl ⟨by rfl, ?_⟩; intro wS hSw; go_simp; try with_reducible rfl)
          simp only [Act.put, List.setIfInBounds_toArray, List.set_cons_zero, List.set_cons_succ]
          refine wpAnyH_take (i := 9) (oi := ⟨_, _, _, _, _, _⟩) (v := ?v42) rfl (by kernel_rfl) (by kernel_rfl) (by kernel_rfl) (fun _ _ _ h => h) ?y42 hS ?_
          case y42 => first | (refine Or.inr ⟨by rfl, ?_⟩; with_reducible rfl) | (refine Or.inl ⟨by rfl, ?_⟩; intro wS hSw; obtain ⟨q0, q1⟩ := pairs_cell hSw.qo HL.out; go_simp; try with_reducible rfl)
          simp only [Act.put, List.setIfInBounds_toArray, List.set_cons_zero, List.set_cons_succ]
          have hq := fun w => eqp_same w ((o[k]'HL.out).1 : Int) ((o[k]'HL.out).2 : Int)
          refine wpAnyH_take (i := 10) (oi := ⟨_, _, _, _, _, _⟩) (v := ?v43) rfl (by kernel_rfl) (by kernel_rfl) (by kernel_rfl) (fun _ _ _ h => h) ?y43 hS ?_
          case y43 => first | (refine Or.inr ⟨by rfl, ?_⟩; with_reducible rfl) | (refine Or.inl ⟨by rfl, ?_⟩; intro wS hSw; go_simp; try with_reducible rfl)
          simp only [Act.put, List.setIfInBounds_toArray, List.set_cons_zero, List.set_cons_succ]
          refine wpAnyH_take (i := 11) (oi := ⟨_, _, _, _, _, _⟩) (v := ?v44) rfl (by kernel_rfl) (by kernel_rfl) (by kernel_rfl) (fun _ _ _ h => h) ?y44 hS ?_
          case y44 => first | (refine Or.inr ⟨by rfl, ?_⟩; with_reducible rfl) | (refine Or.inl ⟨by rfl, ?_⟩; intro wS hSw; go_simp; try with_reducible rfl)
          simp only [Act.put, List.setIfInBounds_toArray, List.set_cons_zero, List.set_cons_succ]
          refine wpAnyH_take (i := 12) (oi := ⟨_, _, _, _, _, _⟩) (v := ?v45) rfl (by kernel_rfl) (by kernel_rfl) (by kernel_rfl) (fun _ _ _ h => h) ?y45 hS ?_
          case y45 => first | (refine Or.inr ⟨by rfl, ?_⟩; with_reducible rfl) | (refine Or.inl ⟨by rfl, ?_⟩; intro wS hSw; go_simp; try with_reducible rfl)
          simp only [Act.put, List.setIfInBounds_toArray, List.set_cons_zero, List.set_cons_succ]
          refine wpAnyH_done (by kernel_rfl) ?_ _
          go_wp2_with fail
          go_roundw
          case rel => exact ⟨k + 1, by omega, by go_num, rfl, hS⟩
          case measure => simp [intOf]; omega
        · have hltI : ¬ (k : Int) < o.length := by omega
          clear hR
          go_wp2_with fail
          have hTx := HT.out.below hpos HSk.out.bel
          refine (awake_any _ hTx).mono ?_
          rintro e w9 ⟨rfl, hb⟩
          have HBx := Lib.hid (HSk.out.bel.trans (hb.mono HSk.out.bel.size))
          clear hb hTx
          go_wp2
          go_ret
          exact ⟨rfl, HBx.out⟩

theorem Tryd.bytesClass : Tryd.prog.bytesOf 24 = 32 := by kernel_rfl
theorem Tryd.bytesPair : Tryd.prog.bytesOf 33 = 2 := by kernel_rfl
set_option maxRecDepth 100000 in
set_option maxHeartbeats 1000000 in
theorem classJoins_any (w : World) (s : Nat → Bool) (v1 : Value) (l : List (Nat → Bool)) (v2 : Value) (o : List (Nat × Nat)) (hT : Tab w) (hl : ClsAt w v1 l) (ho : PairsAt w v2 o) (h256 : ∀ r ∈ o, r.1 < 256 ∧ r.2 < 256)
    (q1 : ∀ ao len cap, v1 = .slice ao len cap → len * Tryd.prog.bytesOf 24 ≤ 140737488351232) (q2 : ∀ ao len cap, v2 = .slice ao len cap → len * Tryd.prog.bytesOf 33 ≤ 140737488351232) :
    Calls Tryd.prog 3 #[clv s, v1, v2] w fun e w' => e = .returned (.bool true) ∧ Below w.heap.size w w' := by
  by_cases h400 : l.length + o.length ≤ 400
  · exact classJoins_main w s v1 l v2 o hT hl ho h256 h400
  · have hpos := hT.pos
    obtain ⟨ao1, b1, off1, cap1, rfl, -, -, -, -, -⟩ := hl
    obtain ⟨ao2, b2, off2, cap2, rfl, -, -, -, -, -⟩ := ho
    have h1 := q1 _ _ _ rfl
    have h2 := q2 _ _ _ rfl
    rw [Tryd.bytesClass] at h1
    rw [Tryd.bytesPair] at h2
    have g1 : ((l.length : Int) + o.length) > 400 := by omega
    have hB0 := (Below.refl w.heap.size w).alloc (Nat.le_refl _) (.cells (clc s) 24)
    have HB0 := Lib.hid hB0
    have HT := Lib.hid hT
    clear hB0 hT h256 q1 q2
    unfold clv
    unfold clc at *
    go_enter Tryd.func3, Tryd.ntmps3
    go_wp2_with fail
    refine (awake_any _ (HT.out.below hpos HB0.out)).mono ?_
    rintro e w1 ⟨rfl, hb⟩
    have HB1 := Lib.hid (HB0.out.trans (hb.mono (by simp)))
    clear hb
    go_wp2
    go_ret
    exact ⟨rfl, HB1.out⟩
end Go.Proofs.YtchjlgmnfepedaaDoor
