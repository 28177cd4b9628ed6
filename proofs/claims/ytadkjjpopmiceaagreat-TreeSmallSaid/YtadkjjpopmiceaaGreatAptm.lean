import Derived.Test.YtadkjjpopmiceaaGreatFlwm
import Derived.Test.YtadkjjpopmiceaaGreatApim
namespace Go.Proofs.YtadkjjpopmiceaaGreat
open Go.RowKit Go.Lib

abbrev bag (v : Value) : Array Value := #[.slice none 0 0, .slice none 0 0, .slice none 0 0, .slice none 0 0, .slice none 0 0, .slice none 0 0, .slice none 0 0, v, .slice none 0 0, .slice none 0 0, .slice none 0 0, .slice none 0 0, .slice none 0 0, .slice none 0 0]
theorem Tryz.infoB : (Tryz.prog.info? 22).map (fun i => (i.zero, i.size, i.bytes)) = some (some (.slice none 0 0), 1, 24) := by kernel_rfl
set_option maxRecDepth 100000 in
set_option maxHeartbeats 2000000 in
theorem put_any {B bb k n c : Nat} {a : Option Addr} {v : Value} {gs : List Value} (w : World) (hb : w.heap[bb]? = some (.cells (bag v) 96 (0, 0))) (ho : w.ownsRow B 22 1 v k gs) (hB : B ≤ bb) (hk : k ≤ 10) :
    Calls Tryz.prog 64 #[.pointer (some ⟨bb, 0, none⟩), .slice a n c] w fun e w' => e = .returned (.tuple #[]) ∧ ∃ v', w'.heap[bb]? = some (.cells (bag v') 96 (0, 0)) ∧ w'.ownsRow B 22 1 v' (k + 1) (gs ++ [.slice a n c]) ∧ Below B w w' := by
  have HBg := Lib.hid hb
  have HO := Lib.hid ho
  obtain ⟨va, vc, rfl⟩ := own_val ho
  have c0 := (block_cell' hb 7).1
  have f0 := (block_cell' hb 7).2
  have hbl := lt_of_block hb
  obtain ⟨i1, hi1, hs0, hs1, hs2⟩ := info_parts Tryz.infoB
  clear hb ho
  go_enter Tryz.func64, Tryz.ntmps64
  go_wp2_with (at_builtin; refine wpList_append_own _ rfl (.tmp 8) (.tmp 10) 40 rfl B 22 i1 _ 1 24 Tryz.underlying40 hi1 hs0 hs1 hs2 rfl (by decide) _ k _ rfl (HO.out.alloc _) ⟨w.heap.size, 0, none⟩ 1 1 [.slice a n c] rfl rfl (World.news_of_block (cs := #[.slice a n c]) (t := 22) (fr := (0, 0)) (heap_alloc_new w _)) (by simp [Value.oneCell']) (by unfold maxLen; omega) (by omega) (by simp; omega) ?_; intro v' w1 hown' hgrow _; obtain ⟨wa, wc, rfl⟩ := own_val hown'; have hb1 : Below B w w1 := ((Below.refl B w).alloc (by omega) _).grown hgrow (by simp; omega) (fun r hr => (HO.out.lt r hr).1); have hg1 : w1.heap[bb]? = some (.cells (bag (.slice va k vc)) 96 (0, 0)) := ((hgrow.block bb (by simp; omega) (fun e => own_ne' HBg.out (by decide) HO.out e.symm)).trans (Below.heap_alloc _ _ _ hbl)).trans HBg.out; have HG1 := Lib.hid hg1; have HB1 := Lib.hid hb1; have HO1 := Lib.hid hown'; clear c0 f0 hb1 hown' hgrow; have c0 := (block_cell' hg1 7).1; have f0 := (block_cell' hg1 7).2; clear hg1)
  go_end0
  refine ⟨rfl, _, block_setCell' HG1.out, ?_, HB1.out.setCell (p := ⟨bb, 7, none⟩) hB _⟩
  refine ((Keeps.refl (fun q => q = bb) w1).setCell (p := ⟨bb, 7, none⟩) rfl _).row HO1.out (fun q hq e => ?_)
  subst e
  exact own_ne' HG1.out (by decide) HO1.out hq
set_option maxRecDepth 100000 in
set_option maxHeartbeats 4000000 in
theorem bag_any {K : List (Nat × Obj)} {B bb m : Nat} {v : Value} {vs : List Value} {nn : Nat → Nat} {F0 : Nat → List Tw} (w : World) (h : Fs ((bb, .cells (bag v) 96 (0, 0)) :: K) B w v vs m nn F0) (hm : m ≤ 3) (hnn : ∀ j, j < m → nn j ≤ 1000000) :
    Calls Tryz.prog 63 #[.pointer (some ⟨bb, 0, none⟩)] w fun e w' => e = .returned (.bool true) ∧ Below B w w' ∧ Hid (∀ q ∈ K, w'.heap[q.1]? = some q.2) := by
  have H := Lib.hid h
  have HNn := Lib.hid hnn
  have HBg := Lib.hid (h.kn _ (.head _)).1
  simp only at HBg
  have HB := Lib.hid (Below.refl B w)
  have HBw := Lib.hid h.bw
  obtain ⟨va, vc, rfl⟩ := own_val h.ls
  clear h hnn
  go_enter Tryz.func63, Tryz.ntmps63
  have c0 := (block_cell' HBg.out 0).1
  go_wp2_with fail
  refine (nilLimbs_any w).mono ?_
  rintro e w1 ⟨rfl, hb⟩
  have HBg2 := Lib.hid ((hb.block _ (lt_of_block HBg.out)).trans HBg.out)
  have HB2 := Lib.hid (HB.out.trans (hb.mono HBw.out))
  have HBw2 := Lib.hid (Nat.le_trans HBw.out hb.size)
  have H2 := Lib.hid (H.out.later hb)
  clear hb HBg HB HBw c0 H
  have H := H2
  clear H2
  have HBg := HBg2
  have HB := HB2
  have HBw := HBw2
  clear HBg2 HB2 HBw2
  have c1 := (block_cell' HBg.out 1).1
  go_wp2_with fail
  refine (nilWords_any w1).mono ?_
  rintro e w2 ⟨rfl, hb⟩
  have HBg2 := Lib.hid ((hb.block _ (lt_of_block HBg.out)).trans HBg.out)
  have HB2 := Lib.hid (HB.out.trans (hb.mono HBw.out))
  have HBw2 := Lib.hid (Nat.le_trans HBw.out hb.size)
  have H2 := Lib.hid (H.out.later hb)
  clear hb HBg HB HBw c1 H
  have H := H2
  clear H2
  have HBg := HBg2
  have HB := HB2
  have HBw := HBw2
  clear HBg2 HB2 HBw2
  have c2 := (block_cell' HBg.out 2).1
  go_wp2_with fail
  refine (nilInts_any w2).mono ?_
  rintro e w3 ⟨rfl, hb⟩
  have HBg2 := Lib.hid ((hb.block _ (lt_of_block HBg.out)).trans HBg.out)
  have HB2 := Lib.hid (HB.out.trans (hb.mono HBw.out))
  have HBw2 := Lib.hid (Nat.le_trans HBw.out hb.size)
  have H2 := Lib.hid (H.out.later hb)
  clear hb HBg HB HBw c2 H
  have H := H2
  clear H2
  have HBg := HBg2
  have HB := HB2
  have HBw := HBw2
  clear HBg2 HB2 HBw2
  have c3 := (block_cell' HBg.out 3).1
  go_wp2_with fail
  refine (nilLongs_any w3).mono ?_
  rintro e w4 ⟨rfl, hb⟩
  have HBg2 := Lib.hid ((hb.block _ (lt_of_block HBg.out)).trans HBg.out)
  have HB2 := Lib.hid (HB.out.trans (hb.mono HBw.out))
  have HBw2 := Lib.hid (Nat.le_trans HBw.out hb.size)
  have H2 := Lib.hid (H.out.later hb)
  clear hb HBg HB HBw c3 H
  have H := H2
  clear H2
  have HBg := HBg2
  have HB := HB2
  have HBw := HBw2
  clear HBg2 HB2 HBw2
  have c4 := (block_cell' HBg.out 4).1
  go_wp2_with fail
  refine (nilTexts_any w4).mono ?_
  rintro e w5 ⟨rfl, hb⟩
  have HBg2 := Lib.hid ((hb.block _ (lt_of_block HBg.out)).trans HBg.out)
  have HB2 := Lib.hid (HB.out.trans (hb.mono HBw.out))
  have HBw2 := Lib.hid (Nat.le_trans HBw.out hb.size)
  have H2 := Lib.hid (H.out.later hb)
  clear hb HBg HB HBw c4 H
  have H := H2
  clear H2
  have HBg := HBg2
  have HB := HB2
  have HBw := HBw2
  clear HBg2 HB2 HBw2
  have c5 := (block_cell' HBg.out 5).1
  go_wp2_with fail
  refine (nilBytes_any w5).mono ?_
  rintro e w6 ⟨rfl, hb⟩
  have HBg2 := Lib.hid ((hb.block _ (lt_of_block HBg.out)).trans HBg.out)
  have HB2 := Lib.hid (HB.out.trans (hb.mono HBw.out))
  have HBw2 := Lib.hid (Nat.le_trans HBw.out hb.size)
  have H2 := Lib.hid (H.out.later hb)
  clear hb HBg HB HBw c5 H
  have H := H2
  clear H2
  have HBg := HBg2
  have HB := HB2
  have HBw := HBw2
  clear HBg2 HB2 HBw2
  have c6 := (block_cell' HBg.out 6).1
  go_wp2_with fail
  refine (nilTruths_any w6).mono ?_
  rintro e w7 ⟨rfl, hb⟩
  have HBg2 := Lib.hid ((hb.block _ (lt_of_block HBg.out)).trans HBg.out)
  have HB2 := Lib.hid (HB.out.trans (hb.mono HBw.out))
  have HBw2 := Lib.hid (Nat.le_trans HBw.out hb.size)
  have H2 := Lib.hid (H.out.later hb)
  clear hb HBg HB HBw c6 H
  have H := H2
  clear H2
  have HBg := HBg2
  have HB := HB2
  have HBw := HBw2
  clear HBg2 HB2 HBw2
  have c7 := (block_cell' HBg.out 7).1
  go_wp2_with fail
  refine (flat_any w7 H.out hm HNn.out).mono ?_
  rintro e w8 ⟨rfl, hb, hk⟩
  have HBg2 := Lib.hid (hk _ (.head _))
  simp only at HBg2
  have HB2 := Lib.hid (HB.out.trans hb)
  have HBw2 := Lib.hid (Nat.le_trans HBw.out hb.size)
  have HKn := Lib.hid (show ∀ q ∈ K, w8.heap[q.1]? = some q.2 from fun q hq => hk q (.tail _ hq))
  clear hb hk HBg HB HBw H c7
  have HBg := HBg2
  have HB := HB2
  have HBw := HBw2
  clear HBg2 HB2 HBw2
  have c8 := (block_cell' HBg.out 8).1
  go_wp2_with fail
  refine (nilNodes_any w8).mono ?_
  rintro e w9 ⟨rfl, hb⟩
  have HBg2 := Lib.hid ((hb.block _ (lt_of_block HBg.out)).trans HBg.out)
  have HB2 := Lib.hid (HB.out.trans (hb.mono HBw.out))
  have HBw2 := Lib.hid (Nat.le_trans HBw.out hb.size)
  have HKn2 := Lib.hid (show ∀ q ∈ K, w9.heap[q.1]? = some q.2 from fun q hq => (hb.block _ (lt_of_block (HKn.out q hq))).trans (HKn.out q hq))
  clear hb HBg HB HBw c8 HKn
  have HKn := HKn2
  clear HKn2
  have HBg := HBg2
  have HB := HB2
  have HBw := HBw2
  clear HBg2 HB2 HBw2
  have c9 := (block_cell' HBg.out 9).1
  go_wp2_with fail
  refine (nilRules_any w9).mono ?_
  rintro e w10 ⟨rfl, hb⟩
  have HBg2 := Lib.hid ((hb.block _ (lt_of_block HBg.out)).trans HBg.out)
  have HB2 := Lib.hid (HB.out.trans (hb.mono HBw.out))
  have HBw2 := Lib.hid (Nat.le_trans HBw.out hb.size)
  have HKn2 := Lib.hid (show ∀ q ∈ K, w10.heap[q.1]? = some q.2 from fun q hq => (hb.block _ (lt_of_block (HKn.out q hq))).trans (HKn.out q hq))
  clear hb HBg HB HBw c9 HKn
  have HKn := HKn2
  clear HKn2
  have HBg := HBg2
  have HB := HB2
  have HBw := HBw2
  clear HBg2 HB2 HBw2
  have c10 := (block_cell' HBg.out 10).1
  go_wp2_with fail
  refine (nilSpans_any w10).mono ?_
  rintro e w11 ⟨rfl, hb⟩
  have HBg2 := Lib.hid ((hb.block _ (lt_of_block HBg.out)).trans HBg.out)
  have HB2 := Lib.hid (HB.out.trans (hb.mono HBw.out))
  have HBw2 := Lib.hid (Nat.le_trans HBw.out hb.size)
  have HKn2 := Lib.hid (show ∀ q ∈ K, w11.heap[q.1]? = some q.2 from fun q hq => (hb.block _ (lt_of_block (HKn.out q hq))).trans (HKn.out q hq))
  clear hb HBg HB HBw c10 HKn
  have HKn := HKn2
  clear HKn2
  have HBg := HBg2
  have HB := HB2
  have HBw := HBw2
  clear HBg2 HB2 HBw2
  have c11 := (block_cell' HBg.out 11).1
  go_wp2_with fail
  refine (nilGrammars_any w11).mono ?_
  rintro e w12 ⟨rfl, hb⟩
  have HBg2 := Lib.hid ((hb.block _ (lt_of_block HBg.out)).trans HBg.out)
  have HB2 := Lib.hid (HB.out.trans (hb.mono HBw.out))
  have HBw2 := Lib.hid (Nat.le_trans HBw.out hb.size)
  have HKn2 := Lib.hid (show ∀ q ∈ K, w12.heap[q.1]? = some q.2 from fun q hq => (hb.block _ (lt_of_block (HKn.out q hq))).trans (HKn.out q hq))
  clear hb HBg HB HBw c11 HKn
  have HKn := HKn2
  clear HKn2
  have HBg := HBg2
  have HB := HB2
  have HBw := HBw2
  clear HBg2 HB2 HBw2
  have c12 := (block_cell' HBg.out 12).1
  go_wp2_with fail
  refine (nilFounds_any w12).mono ?_
  rintro e w13 ⟨rfl, hb⟩
  have HBg2 := Lib.hid ((hb.block _ (lt_of_block HBg.out)).trans HBg.out)
  have HB2 := Lib.hid (HB.out.trans (hb.mono HBw.out))
  have HBw2 := Lib.hid (Nat.le_trans HBw.out hb.size)
  have HKn2 := Lib.hid (show ∀ q ∈ K, w13.heap[q.1]? = some q.2 from fun q hq => (hb.block _ (lt_of_block (HKn.out q hq))).trans (HKn.out q hq))
  clear hb HBg HB HBw c12 HKn
  have HKn := HKn2
  clear HKn2
  have HBg := HBg2
  have HB := HB2
  have HBw := HBw2
  clear HBg2 HB2 HBw2
  have c13 := (block_cell' HBg.out 13).1
  go_wp2_with fail
  refine (nilEvents_any w13).mono ?_
  rintro e w14 ⟨rfl, hb⟩
  have HBg2 := Lib.hid ((hb.block _ (lt_of_block HBg.out)).trans HBg.out)
  have HB2 := Lib.hid (HB.out.trans (hb.mono HBw.out))
  have HBw2 := Lib.hid (Nat.le_trans HBw.out hb.size)
  have HKn2 := Lib.hid (show ∀ q ∈ K, w14.heap[q.1]? = some q.2 from fun q hq => (hb.block _ (lt_of_block (HKn.out q hq))).trans (HKn.out q hq))
  clear hb HBg HB HBw c13 HKn
  have HKn := HKn2
  clear HKn2
  have HBg := HBg2
  have HB := HB2
  have HBw := HBw2
  clear HBg2 HB2 HBw2
  go_wp2
  go_ret
  exact ⟨rfl, HB.out, HKn⟩
set_option maxRecDepth 100000 in
set_option maxHeartbeats 4000000 in
/-- lists that lie apart. -/
theorem apart_any {K : List (Nat × Obj)} {B m : Nat} {V : Value} {vs : List Value} {nn : Nat → Nat} {F0 : Nat → List Tw} (w : World) (h : Fs K B w V vs m nn F0) (hm : m ≤ 3) (hnn : ∀ j, j < m → nn j ≤ 1000000) :
    Calls Tryz.prog 29 #[V] w fun e w' => e = .returned (.bool true) ∧ Below B w w' ∧ Hid (∀ q ∈ K, w'.heap[q.1]? = some q.2) := by
  have H := Lib.hid h
  have HNn := Lib.hid hnn
  obtain ⟨va, vcp, rfl⟩ := own_val h.ls
  clear h hnn
  go_enter Tryz.func29, Tryz.ntmps29
  go_upto_region 2 with (fail)
  refine gen_world (S := fun u => Below w.heap.size w u ∧ u.heap[w.heap.size]? = some (.cells (bag (.slice none 0 0)) 96 (0, 0))) (one_new w _) (fun u hu => ?_)
  obtain ⟨hb0, hx⟩ := hu
  have HB0 := Lib.hid hb0
  have HX := Lib.hid hx
  obtain ⟨bb, hbb⟩ : ∃ bb, bb = w.heap.size := ⟨_, rfl⟩
  have HBb := Lib.hid hbb
  rw [← hbb] at HX ⊢
  clear hb0 hx hbb
  go_wp2
  go_loopw [4] (fun i wr => ∃ (k : Nat) (v : Value), k ≤ m ∧ i = .int .i64 k ∧ Hid (wr.heap[bb]? = some (.cells (bag v) 96 (0, 0))) ∧ Hid (wr.ownsRow w.heap.size 22 1 v k (vs.take k)) ∧ Below w.heap.size w wr) (fun i _ => m - (intOf i).toNat)
  case atStart => exact ⟨0, _, by omega, rfl, HX, Lib.hid (World.ownsRow_nil _ _ _ _), HB0.out⟩
  case round =>
    obtain ⟨k, v, hk, rfl, HG, HO, hbel⟩ := hrel
    have HB := Lib.hid hbel
    have HF := Lib.hid (H.out.later hbel)
    clear hbel
    by_cases hlt : k < m
    · have hlt' : (k : Int) < m := by omega
      obtain ⟨lb, rfl, hlb, c0, -⟩ := Fs.cell HF.out.ls HF.out.len hlt
      have hrow := HF.out.rw k hlt
      obtain ⟨sa, sc, hsl⟩ := own_val hrow
      have hts : vs.take (k + 1) = vs.take k ++ [slAt vs k] := by rw [List.take_succ_eq_append_getElem (by have := HF.out.len; omega), slAt_get HF.out.len hlt]
      rw [hsl] at c0 hts
      have HTs := Lib.hid hts
      clear hrow hsl hts hlb
      go_wp2_with fail
      refine (put_any wr HG.out HO.out (by rw [HBb.out]; exact Nat.le_refl _) (by omega)).mono ?_
      rintro e w2 ⟨rfl, v', hg, ho, hb⟩
      have HG2 := Lib.hid hg
      have HO2 := Lib.hid ho
      have HB2 := Lib.hid (HB.out.trans hb)
      clear hg ho hb c0
      go_wp2
      go_roundw
      case rel => exact ⟨k + 1, v', by omega, by go_num, HG2, Lib.hid (by rw [HTs.out]; exact HO2.out), HB2.out⟩
      case measure => simp [intOf]; omega
    · have hlt' : ¬ (k : Int) < m := by omega
      obtain rfl : k = m := by omega
      have hF2 : Fs ((bb, .cells (bag v) 96 (0, 0)) :: K) B wr v vs k nn F0 := by
        have hO := HO.out
        rw [List.take_of_length_le (by have := HF.out.len; omega)] at hO
        refine ⟨ownsRow_base hO H.out.bw, HF.out.len, HF.out.rw, HF.out.di, HF.out.bw, fun q hq => ?_⟩
        rcases List.mem_cons.1 hq with rfl | hq
        rotate_left
        · obtain ⟨q1, q2, q3⟩ := HF.out.kn q hq
          refine ⟨q1, fun e => ?_, q3⟩
          have h1 := (HO.out.lt _ e).1
          have h2 := lt_of_block (H.out.kn q hq).1
          omega
        refine ⟨HG.out, own_ne' HG.out (by decide) hO, fun j hj e => ?_⟩
        have h1 := ((H.out.rw j hj).lt _ e).2
        have h2 := HBb.out
        simp only at h1
        omega
      have HF2 := Lib.hid hF2
      clear hF2
      go_wp2_with fail
      refine (bag_any wr HF2.out hm HNn.out).mono ?_
      rintro e w2 ⟨rfl, hb, hkn⟩
      go_wp2
      go_ret
      exact ⟨rfl, (below_low HB.out H.out.bw).trans hb, hkn⟩
end Go.Proofs.YtadkjjpopmiceaaGreat
