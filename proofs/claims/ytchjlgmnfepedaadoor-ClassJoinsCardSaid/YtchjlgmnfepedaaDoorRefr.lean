/-
  Package seedlingref01: From; rows of classes that a call owns.
-/
import Derived.Test.YtchjlgmnfepedaaDoorRefx
import Derived.Deep.RegionHeld
import Derived.Deep.AppendLies
namespace Go.Proofs.YtchjlgmnfepedaaDoor
open Go.RowKit Go.Lib

/-- the cells of some classes. -/
def ccells (l : List (Nat → Bool)) : List Value := l.flatMap fun s => (clc s).toList
theorem ccells_len : ∀ l : List (Nat → Bool), (ccells l).length = l.length * 4
  | [] => rfl
  | s :: l => by have := ccells_len l; simp only [ccells, List.flatMap_cons, List.length_append, List.length_cons] at this ⊢; rw [this]; simp [clc]; omega
theorem ccells_snoc (l : List (Nat → Bool)) (s : Nat → Bool) : ccells (l ++ [s]) = ccells l ++ [.int .u64 (word s 0), .int .u64 (word s 1), .int .u64 (word s 2), .int .u64 (word s 3)] := by simp [ccells, clc]
theorem ccells_get {l : List (Nat → Bool)} {k j : Nat} (hk : k < l.length) (hj : j < 4) : (ccells l)[k * 4 + j]? = some (.int .u64 (word l[k] j)) := by
  have hd : l = l.take k ++ [l[k]] ++ l.drop (k + 1) := by
    rw [← List.take_succ_eq_append_getElem hk, List.take_append_drop]
  have hl : (ccells (l.take k)).length = k * 4 := by rw [ccells_len, List.length_take, Nat.min_eq_left (by omega)]
  have he : ccells l = ccells (l.take k) ++ ((clc l[k]).toList ++ ccells (l.drop (k + 1))) := by
    have h1 : ccells (l.take k ++ [l[k]] ++ l.drop (k + 1)) = ccells (l.take k) ++ ((clc l[k]).toList ++ ccells (l.drop (k + 1))) := by
      unfold ccells
      rw [List.flatMap_append, List.flatMap_append]
      simp only [List.flatMap_cons, List.flatMap_nil, List.append_nil, List.append_assoc]
    rw [← h1, ← hd]
  rw [he, List.getElem?_append_right (by omega), hl, Nat.add_sub_cancel_left, List.getElem?_append_left (by simp [clc]; omega), Array.getElem?_toList, clc_get _ hj]
theorem ccells_one (l : List (Nat → Bool)) : ∀ u ∈ ccells l, u.oneCell' = true := by
  intro u hu
  obtain ⟨s, _, hs⟩ := List.mem_flatMap.1 hu
  simp [clc] at hs
  rcases hs with rfl | rfl | rfl | rfl <;> rfl
theorem cls_own {w : World} {base : Nat} {v : Value} {l : List (Nat → Bool)} (h : w.ownsRow base 24 4 v l.length (ccells l)) : ClsAt w v l := by
  rcases h.2 with ⟨rfl, h0⟩ | ⟨g, cap, cur, rfl, hb, hg, hnc, hcm, hcs, ht⟩
  · exact ⟨none, 0, 0, 0, by rw [h0], by omega, by unfold maxLen; omega, fun _ => ⟨h0, rfl⟩, fun h => by omega, fun k hk => by omega⟩
  · refine ⟨_, g, 0, cap, rfl, hnc, hcm, (fun h => by cases h), fun _ => ⟨rfl, lt_of_block hg⟩, fun k hk j hj => ?_⟩
    rw [Nat.zero_add]
    exact (own_cell h (ccells_get hk hj)).1
theorem own_base {w : World} {base n size : Nat} {e : TypeId} {v : Value} {xs : List Value} (h : w.ownsRow base e size v n xs) : ∀ j, v.ownBlock = some j → base ≤ j := by
  intro j hj
  rcases h.2 with ⟨rfl, _⟩ | ⟨g, cap, cur, rfl, hb, _⟩
  · simp [Value.ownBlock] at hj
  · simp [Value.ownBlock] at hj; omega
theorem Tryd.info_class : (Tryd.prog.info? 24).map (fun i => (i.zero, i.size, i.bytes)) = some (some (.agg #[.int .u64 0, .int .u64 0, .int .u64 0, .int .u64 0]), 4, 32) := by kernel_rfl
def rngs (o : List (Nat × Nat)) : List (Nat → Bool) := o.map fun r => clRange r.1 r.2
theorem rngs_take (o : List (Nat × Nat)) {k : Nat} (h : k < o.length) : rngs (o.take (k + 1)) = rngs (o.take k) ++ [clRange o[k].1 o[k].2] := by
  unfold rngs
  rw [List.take_succ_eq_append_getElem h, List.map_append]
  rfl
theorem fold_rngs (o : List (Nat × Nat)) : clFold clNone (rngs o) = inRuns o := by
  funext b
  rw [clFold_any]
  simp [clNone, rngs, inRuns, List.any_map, clRange, Function.comp_def]
theorem pairs_cell {w : World} {b off n cap : Nat} {o : List (Nat × Nat)} (h : PairsAt w (.slice (some ⟨b, off, none⟩) n cap) o) {k : Nat} (hk : k < o.length) :
    w.cell? ⟨b, off + k * 2, none⟩ = some (.int .u8 (o[k].1 : Int)) ∧ w.cell? ⟨b, off + k * 2 + 1, none⟩ = some (.int .u8 (o[k].2 : Int)) := by
  obtain ⟨ao, b', off', cap', he, _, _, _, hao, hc⟩ := h
  simp only [Value.slice.injEq] at he
  obtain ⟨h1, _⟩ := hao (by omega)
  rw [h1] at he
  simp at he
  obtain ⟨⟨rfl, rfl⟩, _⟩ := he
  exact hc k hk

set_option maxRecDepth 100000 in
set_option maxHeartbeats 2000000 in
theorem ref_From (w : World) (v : Value) (o : List (Nat × Nat)) (hv : PairsAt w v o) (h256 : ∀ r ∈ o, r.1 < 256 ∧ r.2 < 256) (h400 : o.length ≤ 400) :
    Calls Tryd.prog 14 #[v] w fun e w' => e = .returned (clv (inRuns o)) ∧ Below w.heap.size w w' := by
  have HV := Lib.hid hv
  have H2 := Lib.hid h256
  clear h256
  obtain ⟨nfo, hinfo, hz0, hz1, hz2⟩ := info_parts Tryd.info_class
  obtain ⟨ao, b, off, cap, rfl, hl, hm, hnil, hao, hc⟩ := hv
  have HAO := Lib.hid hao
  clear hnil hao hc
  go_enter Tryd.func14, Tryd.ntmps14
  go_wp2
  go_loopw [3, 4] (fun lv i wr => ∃ k : Nat, k ≤ o.length ∧ i = .int .i64 k ∧ wr.ownsRow (w.heap.size + 1) 24 4 lv k (ccells (rngs (o.take k))) ∧ wr.heap[w.heap.size]? = some (.cells #[.int .u64 0, .int .u64 0, .int .u64 0, .int .u64 0] 24 (0, 0)) ∧ Below w.heap.size w wr) (fun _ i _ => o.length - (intOf i).toNat)
  case atStart => exact ⟨0, by omega, rfl, World.ownsRow_nil _ _ _ _, heap_alloc_new _ _, (Below.refl _ _).alloc (Nat.le_refl _) _⟩
  case round =>
    obtain ⟨k, hk, rfl, hown, hr, hb⟩ := hrel
    have HO := Lib.hid hown
    have HR := Lib.hid hr
    have HB := Lib.hid hb
    clear hown hr hb
    by_cases hlt : k < o.length
    · have hltI : (k : Int) < o.length := by omega
      obtain ⟨rfl, _⟩ := HAO.out (by omega)
      obtain ⟨ra, rb⟩ := H2.out (o[k]'hlt) (List.getElem_mem hlt)
      obtain ⟨G, hG⟩ : ∃ G, G = clRange (o[k]'hlt).1 (o[k]'hlt).2 := ⟨_, rfl⟩
      have HRa := Lib.hid ra
      have HRb := Lib.hid rb
      have HG := Lib.hid hG
      have HL := Lib.hid hlt
      clear ra rb hG
      go_wp2_with fail
      refine wp_region_held_drew (S := fun wS => Below w.heap.size w wS) (by kernel_rfl) (HB.out.trans ⟨rfl, rfl, rfl, Nat.le_refl _, fun _ _ => rfl⟩) (fun hS => ?_)
      refine wpAnyH_take (i := 0) (oi := ⟨_, _, _, _, _, _⟩) (v := ?v1) rfl (by kernel_rfl) (by kernel_rfl) (by kernel_rfl) (fun _ _ _ h => h) ?y1 hS ?_
      case y1 => first | (refine Or.inr ⟨by rfl, ?_⟩; with_reducible rfl) | (refine Or.inl ⟨by rfl, ?_⟩; intro wS hSw; obtain ⟨d1, d2⟩ := pairs_cell (HV.out.later hSw) HL.out; go_simp; try with_reducible rfl)
      simp only [Act.put, List.setIfInBounds_toArray, List.set_cons_zero, List.set_cons_succ]
      refine wpAnyH_take (i := 1) (oi := ⟨_, _, _, _, _, _⟩) (v := ?v2) rfl (by kernel_rfl) (by kernel_rfl) (by kernel_rfl) (fun _ _ _ h => h) ?y2 hS ?_
      case y2 => first | (refine Or.inr ⟨by rfl, ?_⟩; with_reducible rfl) | (refine Or.inl ⟨by rfl, ?_⟩; intro wS hSw; obtain ⟨d1, d2⟩ := pairs_cell (HV.out.later hSw) HL.out; go_simp; try with_reducible rfl)
      simp only [Act.put, List.setIfInBounds_toArray, List.set_cons_zero, List.set_cons_succ]
      refine wpAnyH_take (i := 2) (oi := ⟨_, _, _, _, _, _⟩) (v := ?v3) rfl (by kernel_rfl) (by kernel_rfl) (by kernel_rfl) (fun _ _ _ h => h) ?y3 hS ?_
      case y3 => first | (refine Or.inr ⟨by rfl, ?_⟩; with_reducible rfl) | (refine Or.inl ⟨by rfl, ?_⟩; intro wS hSw; obtain ⟨d1, d2⟩ := pairs_cell (HV.out.later hSw) HL.out; go_simp; try with_reducible rfl)
      simp only [Act.put, List.setIfInBounds_toArray, List.set_cons_zero, List.set_cons_succ]
      refine wpAnyH_take (i := 3) (oi := ⟨_, _, _, _, _, _⟩) (v := ?v4) rfl (by kernel_rfl) (by kernel_rfl) (by kernel_rfl) (fun _ _ _ h => h) ?y4 hS ?_
      case y4 => first | (refine Or.inr ⟨by rfl, ?_⟩; with_reducible rfl) | (refine Or.inl ⟨by rfl, ?_⟩; intro wS hSw; obtain ⟨d1, d2⟩ := pairs_cell (HV.out.later hSw) HL.out; go_simp; try with_reducible rfl)
      simp only [Act.put, List.setIfInBounds_toArray, List.set_cons_zero, List.set_cons_succ]
      refine wpAnyH_take (i := 4) (oi := ⟨_, _, _, _, _, _⟩) (v := ?v5) rfl (by kernel_rfl) (by kernel_rfl) (by kernel_rfl) (fun _ _ _ h => h) ?y5 hS ?_
      case y5 => first | (refine Or.inr ⟨by rfl, ?_⟩; with_reducible rfl) | (refine Or.inl ⟨by rfl, ?_⟩; intro wS hSw; obtain ⟨d1, d2⟩ := pairs_cell (HV.out.later hSw) HL.out; go_simp; try with_reducible rfl)
      simp only [Act.put, List.setIfInBounds_toArray, List.set_cons_zero, List.set_cons_succ]
      refine wpAnyH_take (i := 5) (oi := ⟨_, _, _, _, _, _⟩) (v := ?v6) rfl (by kernel_rfl) (by kernel_rfl) (by kernel_rfl) (fun _ _ _ h => h) ?y6 hS ?_
      case y6 => first | (refine Or.inr ⟨by rfl, ?_⟩; with_reducible rfl) | (refine Or.inl ⟨by rfl, ?_⟩; intro wS hSw; obtain ⟨d1, d2⟩ := pairs_cell (HV.out.later hSw) HL.out; go_simp; try with_reducible rfl)
      simp only [Act.put, List.setIfInBounds_toArray, List.set_cons_zero, List.set_cons_succ]
      refine wpAnyH_take (i := 6) (oi := ⟨_, _, _, _, _, _⟩) (v := ?v7) rfl (by kernel_rfl) (by kernel_rfl) (by kernel_rfl) (fun _ _ _ h => h) ?y7 hS ?_
      case y7 => first | (refine Or.inr ⟨by rfl, ?_⟩; with_reducible rfl) | (refine Or.inl ⟨by rfl, ?_⟩; intro wS hSw; obtain ⟨d1, d2⟩ := pairs_cell (HV.out.later hSw) HL.out; go_simp; try with_reducible rfl)
      simp only [Act.put, List.setIfInBounds_toArray, List.set_cons_zero, List.set_cons_succ]
      refine wpAnyH_take (i := 7) (oi := ⟨_, _, _, _, _, _⟩) (v := ?v8) rfl (by kernel_rfl) (by kernel_rfl) (by kernel_rfl) (fun _ _ _ h => h) ?y8 hS ?_
      case y8 => first | (refine Or.inr ⟨by rfl, ?_⟩; with_reducible rfl) | (refine Or.inl ⟨by rfl, ?_⟩; intro wS hSw; obtain ⟨d1, d2⟩ := pairs_cell (HV.out.later hSw) HL.out; go_simp; try with_reducible rfl)
      simp only [Act.put, List.setIfInBounds_toArray, List.set_cons_zero, List.set_cons_succ]
      refine wpAnyH_take (i := 8) (oi := ⟨_, _, _, _, _, _⟩) (v := ?v9) rfl (by kernel_rfl) (by kernel_rfl) (by kernel_rfl) (fun _ _ _ h => h) ?y9 hS ?_
      case y9 => first | (refine Or.inr ⟨by rfl, ?_⟩; with_reducible rfl) | (refine Or.inl ⟨by rfl, ?_⟩; intro wS hSw; obtain ⟨d1, d2⟩ := pairs_cell (HV.out.later hSw) HL.out; go_simp; try with_reducible rfl)
      simp only [Act.put, List.setIfInBounds_toArray, List.set_cons_zero, List.set_cons_succ]
      refine wpAnyH_take (i := 9) (oi := ⟨_, _, _, _, _, _⟩) (v := ?v10) rfl (by kernel_rfl) (by kernel_rfl) (by kernel_rfl) (fun _ _ _ h => h) ?y10 hS ?_
      case y10 => first | (refine Or.inr ⟨by rfl, ?_⟩; with_reducible rfl) | (refine Or.inl ⟨by rfl, ?_⟩; intro wS hSw; obtain ⟨d1, d2⟩ := pairs_cell (HV.out.later hSw) HL.out; go_simp; try with_reducible rfl)
      simp only [Act.put, List.setIfInBounds_toArray, List.set_cons_zero, List.set_cons_succ]
      refine wpAnyH_take (i := 10) (oi := ⟨_, _, _, _, _, _⟩) (v := ?v11) rfl (by kernel_rfl) (by kernel_rfl) (by kernel_rfl) (fun _ _ _ h => h) ?y11 hS ?_
      case y11 => first | (refine Or.inr ⟨by rfl, ?_⟩; with_reducible rfl) | (refine Or.inl ⟨by rfl, ?_⟩; intro wS hSw; obtain ⟨d1, d2⟩ := pairs_cell (HV.out.later hSw) HL.out; go_simp; try with_reducible rfl)
      simp only [Act.put, List.setIfInBounds_toArray, List.set_cons_zero, List.set_cons_succ]
      refine wpAnyH_ready (rs := [11]) (by kernel_rfl) (by simp) ?_
      refine AllReadyH.cons (o := ⟨_, _, _, _, _, _⟩) rfl (fun K hK => ?_) AllReadyH.nil
      go_simp
      refine (ref_Range _ _ _ HRa.out HRb.out).mono ?_
      rintro e wv ⟨rfl, hb⟩
      rw [← HG.out]
      unfold clv clc
      go_wp2_with fail
      have hb2 : Below wr.heap.size wr wv := ⟨hb.os, hb.tape, hb.output, hb.size, hb.block⟩
      have HB2 := Lib.hid hb2
      clear hb
      refine hK.out _ _ (HB.out.trans (hb2.mono HB.out.size)) (fun hS => ?_)
      clear hK K
      try simp only [Act.put, List.setIfInBounds_toArray, List.set_cons_zero, List.set_cons_succ]
      refine wpAnyH_ready (rs := [12]) (by kernel_rfl) (by simp) ?_
      refine AllReadyH.cons (o := ⟨_, _, _, _, _, _⟩) rfl (fun K hK => ?_) AllReadyH.nil
      go_simp
      refine hK.out _ _ (hS.alloc hS.size _) (fun hS => ?_)
      clear hK K
      try simp only [Act.put, List.setIfInBounds_toArray, List.set_cons_zero, List.set_cons_succ]
      refine wpAnyH_ready (rs := [13]) (by kernel_rfl) (by simp) ?_
      refine AllReadyH.cons (o := ⟨_, _, _, _, _, _⟩) rfl (fun K hK => ?_) AllReadyH.nil
      refine step_append_lies _ (by rfl) _ _ _ (by rfl) (w.heap.size + 1) 24 nfo _ 4 32 Tryd.underlying25 hinfo hz0 hz1 hz2 rfl (by omega) u3 k (ccells (rngs (o.take k))) (by rfl) (((Keeps.ofNew HB2.out (fun _ => False)).row HO.out (fun _ _ h => h)).alloc _) ⟨wv.heap.size, 0, none⟩ 1 1 [.int .u64 (word G 0), .int .u64 (word G 1), .int .u64 (word G 2), .int .u64 (word G 3)] (by rfl) (by rfl) (World.news_of_block (cs := #[.int .u64 (word G 0), .int .u64 (word G 1), .int .u64 (word G 2), .int .u64 (word G 3)]) (t := 24) (fr := (0, 0)) (heap_alloc_new wv _)) (by simp [Value.oneCell']) (by omega) (by unfold maxLen at hm ⊢; omega) (by omega) (by have := HB.out.size; have := HB2.out.size; have := lt_of_block HR.out; simp; omega) (wv.heap.size + 1) (by simp) ?_
      intro g cap3 w2 hown2 hgrow hat hlt2
      have hgz := own_base HO.out
      refine hK.out _ _ (Below.grown (hS.trans (Below.refl _ _)) hgrow hS.size (fun j hj => by have := hgz j hj; omega)) (fun hS => ?_)
      clear hK K
      try simp only [Act.put, List.setIfInBounds_toArray, List.set_cons_zero, List.set_cons_succ]
      have hz2' : w2.heap[w.heap.size]? = some (.cells #[.int .u64 0, .int .u64 0, .int .u64 0, .int .u64 0] 24 (0, 0)) := by
        rw [hgrow.block _ (by have := HB2.out.size; have := lt_of_block HR.out; simp; omega) (fun e => by have := hgz _ e.symm; omega)]
        exact (heap_alloc_old _ _ (by have := HB2.out.size; have := lt_of_block HR.out; omega)).trans ((HB2.out.block _ (lt_of_block HR.out)).trans HR.out)
      have HZ := Lib.hid hz2'
      have HO2 := Lib.hid hown2
      clear hz2' hown2 hgrow hat hlt2 hgz
      refine wpAnyH_take (i := 14) (oi := ⟨_, _, _, _, _, _⟩) (v := ?v12) rfl (by kernel_rfl) (by kernel_rfl) (by kernel_rfl) (fun _ _ _ h => h) ?y12 hS ?_
      case y12 => first | (refine Or.inr ⟨by rfl, ?_⟩; with_reducible rfl) | (refine Or.inl ⟨by rfl, ?_⟩; intro wS hSw; go_simp; try with_reducible rfl)
      simp only [Act.put, List.setIfInBounds_toArray, List.set_cons_zero, List.set_cons_succ]
      refine wpAnyH_done (by kernel_rfl) ?_ _
      go_wp2_with fail
      go_roundw
      case rel =>
        refine ⟨k + 1, by omega, by go_num, ?_, HZ.out, hS⟩
        rw [rngs_take _ HL.out, ccells_snoc, ← HG.out]
        exact HO2.out
      case measure => simp [intOf]; omega
    · obtain rfl : k = o.length := by omega
      have hltI : ¬ (o.length : Int) < o.length := by omega
      have hown := HO.out
      rw [List.take_length] at hown
      have hcl := cls_own (l := rngs o) (by simpa [rngs] using hown)
      have HC := Lib.hid hcl
      clear hown hcl
      go_wp2_with fail
      refine (ref_Or _ (rngs o) _ HC.out).mono ?_
      rintro e w2 ⟨rfl, hb⟩
      rw [fold_rngs]
      have hr2 := (hb.block _ (lt_of_block HR.out)).trans HR.out
      obtain ⟨⟨r0, f0⟩, ⟨r1, f1⟩, ⟨r2, f2⟩, ⟨r3, f3⟩⟩ := four_cells hr2
      have HR2 := Lib.hid hr2
      have HB2 := Lib.hid (HB.out.trans (hb.mono HB.out.size))
      clear hb hr2
      simp only [clv, clc]
      go_wp2
      have hst := store4 (u0 := .int .u64 (word (inRuns o) 0)) (u1 := .int .u64 (word (inRuns o) 1)) (u2 := .int .u64 (word (inRuns o) 2)) (u3 := .int .u64 (word (inRuns o) 3)) HR2.out
      refine bodyPost_ret (results_cell_row rfl _ _ w.heap.size _ _ _ _ rfl hst Tryd.und_class rfl Tryd.size_class) rfl ⟨rfl, ?_⟩
      exact (((((Keeps.ofBelow HB2.out).setCell (by simp) _).setCell (by simp) _).setCell (by simp) _).setCell (by simp) _).below (Nat.le_refl _) (fun k hk => hk)
end Go.Proofs.YtchjlgmnfepedaaDoor
