/-
  TreeFits: the walk.
-/
import Derived.Test.YtadkjjpopmiceaaTbh
namespace Go.Proofs.Ytadkjjpopmiceaa
open Go.RowKit Go.Lib

theorem TwAt.take {w : World} {ao : Option Addr} {n cap : Nat} {l : List Tw} (h : TwAt w (.slice ao n cap) l) (k : Nat) (hk : k ≤ n) : TwAt w (.slice ao k cap) (l.take k) := by
  obtain ⟨ao', b, off, cap', he, hl, hm, hn, ha, hc1, hc⟩ := h
  simp only [Value.slice.injEq, List.length_map] at he hl hn ha hc
  obtain ⟨rfl, rfl, rfl⟩ := he
  have hlk : ((l.take k).map twc).length = k := by rw [List.length_map, List.length_take]; omega
  refine ⟨ao, b, off, cap, by rw [hlk], by rw [hlk]; omega, hm, fun h => by rw [hlk]; have := hn h; omega, fun h => ha (by rw [hlk] at h; omega), fun e he => ?_, fun i hi j hj => ?_⟩
  · obtain ⟨x, -, rfl⟩ := List.mem_map.1 he
    rfl
  · rw [hlk] at hi
    rw [hc i (by omega) j hj]
    simp
theorem own_some {B : Nat} {w : World} {a : Option Addr} {n p : Nat} {l : List Tw} (h : w.ownsRow B 32 5 (.slice a n p) n (tvs l)) (hn : 0 < n) : ∃ g, a = some ⟨g, 0, none⟩ := by
  obtain ⟨g', cap', cur, h1, -⟩ := h.2.resolve_left (fun h => by omega)
  simp only [Value.slice.injEq] at h1
  exact ⟨g', h1.1⟩
theorem raise_ok {l : List Tw} {r : Nat} (hok : ∀ t ∈ l, twOk t) (hr : r < l.length) (hk : (atT l r).kids ≤ 1000) : ∀ t ∈ raise l r, twOk t := by
  intro t ht
  rcases List.mem_or_eq_of_mem_set ht with h | rfl
  · exact hok t h
  · refine ⟨?_, by simp only []; omega⟩
    rw [atT_get' hr]
    exact (hok _ (List.getElem_mem hr)).1
set_option maxRecDepth 100000 in
set_option maxHeartbeats 8000000 in
theorem treeFits_main (v : Value) (l : List Tw) (w : World) (h : TwAt w v l) (hok : ∀ t ∈ l, twOk t) (hz : l.length ≤ 140737488355328) :
    Calls Try.prog 6 #[v] w fun e w' => e = .returned (.bool true) ∧ Below w.heap.size w w' := by
  have HAw := Lib.hid (awake_any w)
  obtain ⟨ao, cap, rfl⟩ := h.val
  have H := Lib.hid h
  have HOk := Lib.hid hok
  have hcap := h.cells.2.1
  have hcm := h.cells.2.2.1
  obtain ⟨len, hlen⟩ : ∃ len, len = l.length := ⟨_, rfl⟩
  rw [← hlen] at hz hcap H ⊢
  have HLe := Lib.hid hlen
  unfold maxLen at hcm
  clear h hlen hok
  go_enter Try.func6, Try.ntmps6
  go_wp2_with fail
  refine HAw.out.mono ?_
  rintro e w1 ⟨rfl, hb⟩
  have HB1 := Lib.hid hb
  have HT1 := Lib.hid (H.out.later hb)
  clear hb HAw
  by_cases hm : len ≤ 120
  · have hm2 : ¬ (120 : Int) < len := by omega
    have HT := Lib.hid (TwRow.mk HT1.out HOk.out (by rw [← HLe.out]; omega))
    have HR := Lib.hid (right_any _ l w1 HT1.out HOk.out (by rw [← HLe.out]; omega))
    cases hr : rightB l
    · rw [hr] at HR
      clear hr
      go_wp2_with fail
      refine HR.out.mono ?_
      rintro e w2 ⟨rfl, hb⟩
      go_wp2
      go_ret
      exact ⟨rfl, HB1.out.trans (hb.mono HB1.out.size)⟩
    · have HRi := Lib.hid hr
      rw [hr] at HR
      obtain ⟨T, hF0⟩ := (rightB_iff l).1 hr
      have HF0 := Lib.hid hF0
      have HTp := Lib.hid (topR_of hr hF0)
      clear hr hF0
      go_wp2_with fail
      refine HR.out.mono ?_
      rintro e w2 ⟨rfl, hb⟩
      have HB2 := Lib.hid (HB1.out.trans (hb.mono HB1.out.size))
      have HT2 := Lib.hid (HT.out.later hb)
      clear hb
      go_wp2_with fail
      refine (tRoots_any _ _ HT2.out).mono ?_
      rintro e w3 ⟨vp, rfl, ho, hb⟩
      rw [HTp.out] at ho
      have HB3 := Lib.hid (HB2.out.trans (hb.mono HB2.out.size))
      have HT3 := Lib.hid (HT2.out.later hb)
      have HP3 := Lib.hid ho.nm
      obtain ⟨pa, pc, rfl, hp1, hp2⟩ := ho.nm.val
      obtain ⟨m, hmP⟩ : ∃ m, m = T.length := ⟨_, rfl⟩
      rw [← hmP] at HP3 hp1 ⊢
      have HMp := Lib.hid hmP
      unfold maxLen at hp2
      clear ho hb hmP
      go_wp2_with fail
      refine (lawRow_any _ _ 0 len w3 HT3.out HRi.out HP3.out HF0.out (Int.le_refl _) (by rw [← HLe.out]; simp) (by rw [← HLe.out]; omega) (Nat.le_refl _)).mono ?_
      rintro e w4 ⟨rfl, hb⟩
      have HB4 := Lib.hid (HB3.out.trans (hb.mono HB3.out.size))
      have HT4 := Lib.hid (HT3.out.later hb)
      have HP4 := Lib.hid (HP3.out.later hb)
      clear hb
      go_wp2
      go_loopw [4] (fun i wr => ∃ k : Nat, k ≤ m ∧ i = .int .i64 k ∧ Below w4.heap.size w4 wr) (fun i _ => m - (intOf i).toNat)
      case atStart => exact ⟨0, by omega, rfl, Below.refl _ _⟩
      case round =>
        obtain ⟨k, hk, rfl, hbel⟩ := hrel
        have HBr := Lib.hid (HB4.out.trans (hbel.mono HB4.out.size))
        have HTr := Lib.hid (HT4.out.later hbel)
        have HPr := Lib.hid (HP4.out.later hbel)
        by_cases hlt : k < m
        · have hlt' : (k : Int) < m := by omega
          have hkT : k < T.length := by rw [← HMp.out]; exact hlt
          obtain ⟨b, off, rfl, -, c0⟩ := HPr.out.cells hkT
          have hpv := (parV_root HRi.out (r := T[k]) (by rw [HTp.out]; exact List.getElem_mem hkT)).2
          have hp := tParent_any _ (T[k] : Int) _ HTr.out
          rw [hpv] at hp
          obtain ⟨x, hxe⟩ : ∃ x, x = T[k] := ⟨_, rfl⟩
          rw [← hxe] at c0 hp
          have HPa := Lib.hid hp
          clear hpv hp hxe
          go_wp2_with fail
          refine HPa.out.mono ?_
          rintro e w5 ⟨rfl, hb⟩
          have HB5 := Lib.hid (hbel.trans (hb.mono hbel.size))
          clear hb c0
          go_wp2
          go_roundw
          case rel => exact ⟨k + 1, by omega, by go_num, HB5.out⟩
          case measure => simp [intOf]; omega
        · have hlt' : ¬ (k : Int) < m := by omega
          go_wp2
          go_loopw [7] (fun i wr2 => ∃ n : Nat, n ≤ len ∧ i = .int .i64 n ∧ Below wr.heap.size wr wr2) (fun i _ => len - (intOf i).toNat)
          case atStart => exact ⟨0, by omega, rfl, Below.refl _ _⟩
          case round =>
            obtain ⟨n, hn, rfl, hbel2⟩ := hrel
            have HBn := Lib.hid (HBr.out.trans (hbel2.mono HBr.out.size))
            have HBx := Lib.hid hbel2
            have HTn := Lib.hid (HTr.out.later hbel2)
            have HPn := Lib.hid (HPr.out.later hbel2)
            clear hbel hbel2
            by_cases hnl : n < len
            · have hnl' : (n : Int) < len := by omega
              have hn0 : (0 : Int) ≤ n := by omega
              have hnl2 : n < l.length := by rw [← HLe.out]; exact hnl
              obtain ⟨mm, ks, hs⟩ := ((rightB_iff l).1 HRi.out).sub hnl2
              have HS := Lib.hid hs
              have hK := tKids_any _ n _ HTn.out
              rw [kidsR_of HRi.out hs] at hK
              have HKc := Lib.hid hK
              clear hs hK
              go_wp2_with fail
              refine HKc.out.mono ?_
              rintro e w6 ⟨vk, rfl, ho, hb⟩
              have HN6 := Lib.hid ho.nm
              have HB6 := Lib.hid (HBx.out.trans (hb.mono HBx.out.size))
              have HB6w := Lib.hid (HBn.out.trans (hb.mono HBn.out.size))
              have HT6 := Lib.hid (HTn.out.later hb)
              obtain ⟨ka, kc, rfl, -, -⟩ := ho.nm.val
              obtain ⟨kn, hkn⟩ : ∃ kn, kn = ks.length := ⟨_, rfl⟩
              have HKn := Lib.hid hkn
              obtain ⟨tb, toff, rfl, -, c1, c2, c3⟩ := HT6.out.at'.span hnl2
              rw [← HS.out.2.2.1, ← hkn] at c3
              rw [← hkn] at HN6 ⊢
              have hkc := HN6.out.len
              obtain ⟨-, hkc1, hkc2⟩ := hkc
              obtain ⟨fr, hfr⟩ : ∃ fr, fr = (atT l n).fr := ⟨_, rfl⟩
              obtain ⟨tz, htz⟩ : ∃ tz, tz = (atT l n).to := ⟨_, rfl⟩
              rw [← hfr] at c1
              rw [← htz] at c2
              have hsl := HS.out.lt
              obtain ⟨sz, hsz⟩ : ∃ sz, sz = mm - n := ⟨_, rfl⟩
              have hsz2 : sz ≤ 120 := by rw [hsz]; have := HLe.out; omega
              have HSz := Lib.hid (fun u (hu : Below w6.heap.size w6 u) => (show Calls Try.prog 33 #[.slice (some ⟨tb, toff, none⟩) len cap, .int .i64 n] u fun en w' => en = .returned (.int .i64 sz) ∧ Below w6.heap.size w6 w' from by
                have := tSize_any (.slice (some ⟨tb, toff, none⟩) len cap) n u (HT6.out.later hu)
                rw [sizR_of HRi.out HS.out, ← hsz] at this
                exact this.mono fun en w' hh => ⟨hh.1, hu.trans (hh.2.mono hu.size)⟩))
              have HRo := Lib.hid (fun u (hu : Below w6.heap.size w6 u) => (show Calls Try.prog 31 #[.slice (some ⟨tb, toff, none⟩) len cap, .slice ka kn kc, .agg #[.int .i64 fr, .int .i64 tz], .int .i64 (IntKind.i64.wrap ((sz : Int) - 1))] u fun en w' => en = .returned (.bool true) ∧ Below w6.heap.size w6 w' from by
                rw [show IntKind.i64.wrap ((sz : Int) - 1) = (sz : Int) - 1 from IntWalk.i64_in _ (by omega)]
                have hFk := HS.out.2.2.2
                rw [← hfr, ← htz] at hFk
                have := lawRow_any (.slice (some ⟨tb, toff, none⟩) len cap) (.slice ka kn kc) fr ((sz : Int) - 1) u (HT6.out.later hu) HRi.out (HN6.out.later hu) hFk (Int.le_refl _) (by omega) (by rw [← HLe.out]; omega) hsl.2
                exact this.mono fun en w' hh => ⟨hh.1, hu.trans (hh.2.mono hu.size)⟩))
              clear ho hb hkn hfr htz hsl hsz HKc
              go_upto_region 18 with (fail)
              refine wp_region_held_drew (S := fun u2 => Below w6.heap.size w6 u2) (by kernel_rfl) ((Below.refl _ _).drew) (fun hS => ?_)
              refine wpAnyH_take (i := 0) (oi := ⟨_, _, _, _, _, _⟩) (v := ?v1) rfl (by kernel_rfl) (by kernel_rfl) (by kernel_rfl) (fun _ _ _ h => h) ?y1 hS ?_
              case y1 => first | (refine Or.inr ⟨by rfl, ?_⟩; with_reducible rfl) | (refine Or.inl ⟨by rfl, ?_⟩; intro wS hSw; have s0 := cell_later hSw c1; have s1 := cell_later hSw c2; have s2 := cell_later hSw c3; go_simp; try with_reducible rfl)
              simp only [Act.put, List.setIfInBounds_toArray, List.set_cons_zero, List.set_cons_succ]
              refine wpAnyH_take (i := 1) (oi := ⟨_, _, _, _, _, _⟩) (v := ?v2) rfl (by kernel_rfl) (by kernel_rfl) (by kernel_rfl) (fun _ _ _ h => h) ?y2 hS ?_
              case y2 => first | (refine Or.inr ⟨by rfl, ?_⟩; with_reducible rfl) | (refine Or.inl ⟨by rfl, ?_⟩; intro wS hSw; have s0 := cell_later hSw c1; have s1 := cell_later hSw c2; have s2 := cell_later hSw c3; go_simp; try with_reducible rfl)
              simp only [Act.put, List.setIfInBounds_toArray, List.set_cons_zero, List.set_cons_succ]
              refine wpAnyH_take (i := 2) (oi := ⟨_, _, _, _, _, _⟩) (v := ?v3) rfl (by kernel_rfl) (by kernel_rfl) (by kernel_rfl) (fun _ _ _ h => h) ?y3 hS ?_
              case y3 => first | (refine Or.inr ⟨by rfl, ?_⟩; with_reducible rfl) | (refine Or.inl ⟨by rfl, ?_⟩; intro wS hSw; have s0 := cell_later hSw c1; have s1 := cell_later hSw c2; have s2 := cell_later hSw c3; go_simp; try with_reducible rfl)
              simp only [Act.put, List.setIfInBounds_toArray, List.set_cons_zero, List.set_cons_succ]
              refine wpAnyH_take (i := 3) (oi := ⟨_, _, _, _, _, _⟩) (v := ?v4) rfl (by kernel_rfl) (by kernel_rfl) (by kernel_rfl) (fun _ _ _ h => h) ?y4 hS ?_
              case y4 => first | (refine Or.inr ⟨by rfl, ?_⟩; with_reducible rfl) | (refine Or.inl ⟨by rfl, ?_⟩; intro wS hSw; have s0 := cell_later hSw c1; have s1 := cell_later hSw c2; have s2 := cell_later hSw c3; go_simp; try with_reducible rfl)
              simp only [Act.put, List.setIfInBounds_toArray, List.set_cons_zero, List.set_cons_succ]
              refine wpAnyH_take (i := 4) (oi := ⟨_, _, _, _, _, _⟩) (v := ?v5) rfl (by kernel_rfl) (by kernel_rfl) (by kernel_rfl) (fun _ _ _ h => h) ?y5 hS ?_
              case y5 => first | (refine Or.inr ⟨by rfl, ?_⟩; with_reducible rfl) | (refine Or.inl ⟨by rfl, ?_⟩; intro wS hSw; have s0 := cell_later hSw c1; have s1 := cell_later hSw c2; have s2 := cell_later hSw c3; go_simp; try with_reducible rfl)
              simp only [Act.put, List.setIfInBounds_toArray, List.set_cons_zero, List.set_cons_succ]
              refine wpAnyH_take (i := 5) (oi := ⟨_, _, _, _, _, _⟩) (v := ?v6) rfl (by kernel_rfl) (by kernel_rfl) (by kernel_rfl) (fun _ _ _ h => h) ?y6 hS ?_
              case y6 => first | (refine Or.inr ⟨by rfl, ?_⟩; with_reducible rfl) | (refine Or.inl ⟨by rfl, ?_⟩; intro wS hSw; have s0 := cell_later hSw c1; have s1 := cell_later hSw c2; have s2 := cell_later hSw c3; go_simp; try with_reducible rfl)
              simp only [Act.put, List.setIfInBounds_toArray, List.set_cons_zero, List.set_cons_succ]
              refine wpAnyH_take (i := 6) (oi := ⟨_, _, _, _, _, _⟩) (v := ?v7) rfl (by kernel_rfl) (by kernel_rfl) (by kernel_rfl) (fun _ _ _ h => h) ?y7 hS ?_
              case y7 => first | (refine Or.inr ⟨by rfl, ?_⟩; with_reducible rfl) | (refine Or.inl ⟨by rfl, ?_⟩; intro wS hSw; have s0 := cell_later hSw c1; have s1 := cell_later hSw c2; have s2 := cell_later hSw c3; go_simp; try with_reducible rfl)
              simp only [Act.put, List.setIfInBounds_toArray, List.set_cons_zero, List.set_cons_succ]
              refine wpAnyH_take (i := 7) (oi := ⟨_, _, _, _, _, _⟩) (v := ?v8) rfl (by kernel_rfl) (by kernel_rfl) (by kernel_rfl) (fun _ _ _ h => h) ?y8 hS ?_
              case y8 => first | (refine Or.inr ⟨by rfl, ?_⟩; with_reducible rfl) | (refine Or.inl ⟨by rfl, ?_⟩; intro wS hSw; have s0 := cell_later hSw c1; have s1 := cell_later hSw c2; have s2 := cell_later hSw c3; go_simp; try with_reducible rfl)
              simp only [Act.put, List.setIfInBounds_toArray, List.set_cons_zero, List.set_cons_succ]
              refine wpAnyH_take (i := 8) (oi := ⟨_, _, _, _, _, _⟩) (v := ?v9) rfl (by kernel_rfl) (by kernel_rfl) (by kernel_rfl) (fun _ _ _ h => h) ?y9 hS ?_
              case y9 => first | (refine Or.inr ⟨by rfl, ?_⟩; with_reducible rfl) | (refine Or.inl ⟨by rfl, ?_⟩; intro wS hSw; have s0 := cell_later hSw c1; have s1 := cell_later hSw c2; have s2 := cell_later hSw c3; go_simp; try with_reducible rfl)
              simp only [Act.put, List.setIfInBounds_toArray, List.set_cons_zero, List.set_cons_succ]
              refine wpAnyH_take (i := 9) (oi := ⟨_, _, _, _, _, _⟩) (v := ?v10) rfl (by kernel_rfl) (by kernel_rfl) (by kernel_rfl) (fun _ _ _ h => h) ?y10 hS ?_
              case y10 => first | (refine Or.inr ⟨by rfl, ?_⟩; with_reducible rfl) | (refine Or.inl ⟨by rfl, ?_⟩; intro wS hSw; have s0 := cell_later hSw c1; have s1 := cell_later hSw c2; have s2 := cell_later hSw c3; go_simp; try with_reducible rfl)
              simp only [Act.put, List.setIfInBounds_toArray, List.set_cons_zero, List.set_cons_succ]
              refine wpAnyH_take (i := 10) (oi := ⟨_, _, _, _, _, _⟩) (v := ?v11) rfl (by kernel_rfl) (by kernel_rfl) (by kernel_rfl) (fun _ _ _ h => h) ?y11 hS ?_
              case y11 => first | (refine Or.inr ⟨by rfl, ?_⟩; with_reducible rfl) | (refine Or.inl ⟨by rfl, ?_⟩; intro wS hSw; have s0 := cell_later hSw c1; have s1 := cell_later hSw c2; have s2 := cell_later hSw c3; go_simp; try with_reducible rfl)
              simp only [Act.put, List.setIfInBounds_toArray, List.set_cons_zero, List.set_cons_succ]
              refine wpAnyH_take (i := 11) (oi := ⟨_, _, _, _, _, _⟩) (v := ?v12) rfl (by kernel_rfl) (by kernel_rfl) (by kernel_rfl) (fun _ _ _ h => h) ?y12 hS ?_
              case y12 => first | (refine Or.inr ⟨by rfl, ?_⟩; with_reducible rfl) | (refine Or.inl ⟨by rfl, ?_⟩; intro wS hSw; have s0 := cell_later hSw c1; have s1 := cell_later hSw c2; have s2 := cell_later hSw c3; go_simp; try with_reducible rfl)
              simp only [Act.put, List.setIfInBounds_toArray, List.set_cons_zero, List.set_cons_succ]
              refine wpAnyH_take (i := 12) (oi := ⟨_, _, _, _, _, _⟩) (v := ?v13) rfl (by kernel_rfl) (by kernel_rfl) (by kernel_rfl) (fun _ _ _ h => h) ?y13 hS ?_
              case y13 => first | (refine Or.inr ⟨by rfl, ?_⟩; with_reducible rfl) | (refine Or.inl ⟨by rfl, ?_⟩; intro wS hSw; have s0 := cell_later hSw c1; have s1 := cell_later hSw c2; have s2 := cell_later hSw c3; go_simp; try with_reducible rfl)
              simp only [Act.put, List.setIfInBounds_toArray, List.set_cons_zero, List.set_cons_succ]
              refine wpAnyH_take (i := 13) (oi := ⟨_, _, _, _, _, _⟩) (v := ?v14) rfl (by kernel_rfl) (by kernel_rfl) (by kernel_rfl) (fun _ _ _ h => h) ?y14 hS ?_
              case y14 => first | (refine Or.inr ⟨by rfl, ?_⟩; with_reducible rfl) | (refine Or.inl ⟨by rfl, ?_⟩; intro wS hSw; have s0 := cell_later hSw c1; have s1 := cell_later hSw c2; have s2 := cell_later hSw c3; go_simp; try with_reducible rfl)
              simp only [Act.put, List.setIfInBounds_toArray, List.set_cons_zero, List.set_cons_succ]
              refine wpAnyH_take (i := 14) (oi := ⟨_, _, _, _, _, _⟩) (v := ?v15) rfl (by kernel_rfl) (by kernel_rfl) (by kernel_rfl) (fun _ _ _ h => h) ?y15 hS ?_
              case y15 => first | (refine Or.inr ⟨by rfl, ?_⟩; with_reducible rfl) | (refine Or.inl ⟨by rfl, ?_⟩; intro wS hSw; have s0 := cell_later hSw c1; have s1 := cell_later hSw c2; have s2 := cell_later hSw c3; go_simp; try with_reducible rfl)
              simp only [Act.put, List.setIfInBounds_toArray, List.set_cons_zero, List.set_cons_succ]
              refine wpAnyH_take (i := 15) (oi := ⟨_, _, _, _, _, _⟩) (v := ?v16) rfl (by kernel_rfl) (by kernel_rfl) (by kernel_rfl) (fun _ _ _ h => h) ?y16 hS ?_
              case y16 => first | (refine Or.inr ⟨by rfl, ?_⟩; with_reducible rfl) | (refine Or.inl ⟨by rfl, ?_⟩; intro wS hSw; have s0 := cell_later hSw c1; have s1 := cell_later hSw c2; have s2 := cell_later hSw c3; go_simp; try with_reducible rfl)
              simp only [Act.put, List.setIfInBounds_toArray, List.set_cons_zero, List.set_cons_succ]
              refine wpAnyH_take (i := 16) (oi := ⟨_, _, _, _, _, _⟩) (v := ?v17) rfl (by kernel_rfl) (by kernel_rfl) (by kernel_rfl) (fun _ _ _ h => h) ?y17 hS ?_
              case y17 => first | (refine Or.inr ⟨by rfl, ?_⟩; with_reducible rfl) | (refine Or.inl ⟨by rfl, ?_⟩; intro wS hSw; have s0 := cell_later hSw c1; have s1 := cell_later hSw c2; have s2 := cell_later hSw c3; go_simp; try with_reducible rfl)
              simp only [Act.put, List.setIfInBounds_toArray, List.set_cons_zero, List.set_cons_succ]
              refine wpAnyH_take (i := 17) (oi := ⟨_, _, _, _, _, _⟩) (v := ?v18) rfl (by kernel_rfl) (by kernel_rfl) (by kernel_rfl) (fun _ _ _ h => h) ?y18 hS ?_
              case y18 => first | (refine Or.inr ⟨by rfl, ?_⟩; with_reducible rfl) | (refine Or.inl ⟨by rfl, ?_⟩; intro wS hSw; have s0 := cell_later hSw c1; have s1 := cell_later hSw c2; have s2 := cell_later hSw c3; go_simp; try with_reducible rfl)
              simp only [Act.put, List.setIfInBounds_toArray, List.set_cons_zero, List.set_cons_succ]
              refine wpAnyH_ready (rs := [18]) (by kernel_rfl) (by simp) ?_
              refine AllReadyH.cons (o := ⟨_, _, _, _, _, _⟩) rfl (fun K hK => ?_) AllReadyH.nil
              go_simp
              refine (HSz.out _ hS).mono ?_
              rintro e wx ⟨rfl, hS⟩
              go_wp2_with fail
              refine hK.out _ _ hS (fun _ => ?_)
              clear hK K
              try simp only [Act.put, List.setIfInBounds_toArray, List.set_cons_zero, List.set_cons_succ]
              refine wpAnyH_take (i := 19) (oi := ⟨_, _, _, _, _, _⟩) (v := ?v19) rfl (by kernel_rfl) (by kernel_rfl) (by kernel_rfl) (fun _ _ _ h => h) ?y19 hS ?_
              case y19 => first | (refine Or.inr ⟨by rfl, ?_⟩; with_reducible rfl) | (refine Or.inl ⟨by rfl, ?_⟩; intro wS hSw; have s0 := cell_later hSw c1; have s1 := cell_later hSw c2; have s2 := cell_later hSw c3; go_simp; try with_reducible rfl)
              simp only [Act.put, List.setIfInBounds_toArray, List.set_cons_zero, List.set_cons_succ]
              refine wpAnyH_ready (rs := [20]) (by kernel_rfl) (by simp) ?_
              refine AllReadyH.cons (o := ⟨_, _, _, _, _, _⟩) rfl (fun K hK => ?_) AllReadyH.nil
              go_simp
              refine (HRo.out _ hS).mono ?_
              rintro e wx ⟨rfl, hS⟩
              go_wp2_with fail
              refine hK.out _ _ hS (fun _ => ?_)
              clear hK K
              try simp only [Act.put, List.setIfInBounds_toArray, List.set_cons_zero, List.set_cons_succ]
              refine wpAnyH_take (i := 21) (oi := ⟨_, _, _, _, _, _⟩) (v := ?v20) rfl (by kernel_rfl) (by kernel_rfl) (by kernel_rfl) (fun _ _ _ h => h) ?y20 hS ?_
              case y20 => first | (refine Or.inr ⟨by rfl, ?_⟩; with_reducible rfl) | (refine Or.inl ⟨by rfl, ?_⟩; intro wS hSw; have s0 := cell_later hSw c1; have s1 := cell_later hSw c2; have s2 := cell_later hSw c3; go_simp; try with_reducible rfl)
              simp only [Act.put, List.setIfInBounds_toArray, List.set_cons_zero, List.set_cons_succ]
              refine wpAnyH_take (i := 22) (oi := ⟨_, _, _, _, _, _⟩) (v := ?v21) rfl (by kernel_rfl) (by kernel_rfl) (by kernel_rfl) (fun _ _ _ h => h) ?y21 hS ?_
              case y21 => first | (refine Or.inr ⟨by rfl, ?_⟩; with_reducible rfl) | (refine Or.inl ⟨by rfl, ?_⟩; intro wS hSw; have s0 := cell_later hSw c1; have s1 := cell_later hSw c2; have s2 := cell_later hSw c3; go_simp; try with_reducible rfl)
              simp only [Act.put, List.setIfInBounds_toArray, List.set_cons_zero, List.set_cons_succ]
              refine wpAnyH_done (by kernel_rfl) ?_ _
              have hB7 := hS
              have HB7 := Lib.hid hB7
              have HB7w := Lib.hid (HB6w.out.trans (hB7.mono HB6w.out.size))
              have HB7x := Lib.hid (HB6.out.trans (hB7.mono HB6.out.size))
              clear hS hB7 c1 c2 c3 HSz HRo
              go_wp2
              go_loopw [9] (fun i wr3 => ∃ j : Nat, j ≤ kn ∧ i = .int .i64 j ∧ Below w6.heap.size w6 wr3) (fun i _ => kn - (intOf i).toNat)
              case atStart => exact ⟨0, by omega, rfl, HB7.out⟩
              case round =>
                obtain ⟨j, hj, rfl, hbel3⟩ := hrel
                have HNj := Lib.hid (HN6.out.later hbel3)
                have HTj := Lib.hid (HT6.out.later hbel3)
                have HB8 := Lib.hid hbel3
                clear hbel3
                by_cases hjl : j < kn
                · have hjl' : (j : Int) < kn := by omega
                  have hjk : j < ks.length := by rw [← HKn.out]; exact hjl
                  obtain ⟨b, off, rfl, -, c0⟩ := HNj.out.cells hjk
                  have hpv := (parV_kid HRi.out HS.out (List.getElem_mem hjk)).2
                  have hp := tParent_any _ (ks[j] : Int) _ HTj.out
                  rw [hpv] at hp
                  obtain ⟨x, hxe⟩ : ∃ x, x = ks[j] := ⟨_, rfl⟩
                  rw [← hxe] at c0 hp
                  have HPa := Lib.hid hp
                  clear hpv hp hxe
                  go_wp2_with fail
                  refine HPa.out.mono ?_
                  rintro e w9 ⟨rfl, hb⟩
                  have HB9 := Lib.hid (HB8.out.trans (hb.mono HB8.out.size))
                  clear hb c0
                  go_wp2
                  go_roundw
                  case rel => exact ⟨j + 1, by omega, by go_num, HB9.out⟩
                  case measure => simp [intOf]; omega
                · have hjl' : ¬ (j : Int) < kn := by omega
                  go_wp2
                  go_roundw
                  case rel => exact ⟨n + 1, by omega, by go_num, HB6.out.trans (HB8.out.mono HB6.out.size)⟩
                  case measure => simp [intOf]; omega
            · have hnl' : ¬ (n : Int) < len := by omega
              by_cases hl0 : len = 0
              · have hl0' : (len : Int) = 0 := by omega
                go_wp2
                go_ret
                exact ⟨rfl, HBn.out⟩
              · have hl0' : ¬ (len : Int) = 0 := by omega
                obtain ⟨hTn, r, hrL, hrl, hra, hrs, hrm⟩ := last_root HRi.out (by rintro rfl; exact hl0 HLe.out)
                have hrT : ∃ (m1 : Nat) (hm1 : m1 < T.length), m = m1 + 1 ∧ T[m1] = r := by
                  have h1 := HTp.out
                  have hT0 : T ≠ [] := by rw [← h1]; exact hTn
                  have h2 := List.length_pos_iff.2 hT0
                  refine ⟨m - 1, by rw [HMp.out]; omega, by rw [HMp.out]; omega, ?_⟩
                  have h3 : r = T.getLast hT0 := by rw [hrL]; congr 1
                  rw [h3, List.getLast_eq_getElem]
                  congr 1
                  rw [HMp.out]
                obtain ⟨m1, hm1, rfl, hTr⟩ := hrT
                obtain ⟨len1, rfl⟩ : ∃ len1, len = len1 + 1 := ⟨len - 1, by omega⟩
                obtain ⟨b, off, rfl, -, c0⟩ := HPn.out.cells hm1
                rw [hTr] at c0
                have hrl1 : r < len1 + 1 := by rw [HLe.out]; exact hrl
                have hkid : (atT l r).kids ≤ 1000 := by
                  obtain ⟨m2, ks2, hs2⟩ := ((rightB_iff l).1 HRi.out).sub hrl
                  have e1 := hs2.2.2.1
                  have e2 := hs2.2.2.2.len_le
                  have e3 := hs2.lt
                  have := HLe.out
                  omega
                have hkid0 : 0 ≤ (atT l r).kids := by
                  obtain ⟨m2, ks2, hs2⟩ := ((rightB_iff l).1 HRi.out).sub hrl
                  have e1 := hs2.2.2.1
                  omega
                have HRa := Lib.hid (not_raised hrl hrs)
                have HLs := Lib.hid (right_less HRi.out (by rintro rfl; exact hl0 HLe.out))
                have HRok := Lib.hid (raise_ok HOk.out hrl hkid)
                have HCo := Lib.hid (copyTwigs_any _ _ HTn.out.at' HTn.out.len)
                obtain ⟨tb, toff, rfl, -, -⟩ := HTn.out.at'.span hrl
                have hcap0 : ¬ cap = 0 := by omega
                clear hTn hrL hra hrs hrm hTr
                go_wp2_with fail
                refine HCo.out.mono ?_
                rintro e w9 ⟨v9, rfl, ho, hb⟩
                have HTk := Lib.hid (HTn.out.later hb)
                have HPk := Lib.hid (cell_later hb c0)
                have HBk := Lib.hid hb
                unfold TwOwn at ho
                rw [← HLe.out] at ho
                obtain ⟨a9, p9, rfl⟩ := own_val ho
                obtain ⟨g, rfl⟩ := own_some ho (by omega)
                have HO9 := Lib.hid ho
                have hg5 := own_cellC twc_len ho r hrl 4 (by omega)
                obtain ⟨hg6, hf4⟩ := hg5
                have hg4 : w9.cell? ⟨g, r * 5 + 4, none⟩ = some (.int .i64 (atT l r).kids) := by rw [hg6, atT_get' hrl]; rfl
                clear hg6
                have hp9 := (own_cap ho).1
                have hgB := (HO9.out.lt g rfl).1
                obtain ⟨kd, hkd⟩ : ∃ kd, kd = (atT l r).kids := ⟨_, rfl⟩
                rw [← hkd] at hg4 hkid hkid0
                have HKd := Lib.hid hkd
                have c0 := HPk.out
                have hw1 : IntKind.i64.wrap (m1 : Int) = (m1 : Int) := IntWalk.i64_in _ (by omega)
                have hd1 : (m1 : Int) < m1 + 1 := by omega
                have hr0 : (0 : Int) ≤ r := by omega
                have hr1 : (r : Int) < len1 + 1 := by omega
                have hwk : IntKind.i64.wrap (kd + 1) = kd + 1 := IntWalk.i64_in _ (by omega)
                have hw2 : IntKind.i64.wrap (len1 : Int) = (len1 : Int) := IntWalk.i64_in _ (by omega)
                clear ho hb hkd
                have HGB := Lib.hid hgB
                have HSt := Lib.hid (show TwOwn wr.heap.size (w9.setCell ⟨g, r * 5 + 4, none⟩ (.int .i64 (kd + 1))) (.slice (some ⟨g, 0, none⟩) (len1 + 1) p9) (raise l r) from by
                  unfold TwOwn
                  rw [raise_len, ← HLe.out]
                  exact own_setC twc_len HO9.out r hrl 4 (by omega) { atT l r with kids := (atT l r).kids + 1 } (.int .i64 (kd + 1)) (by rw [HKd.out, atT_get' hrl]; rfl))
                have HBs := Lib.hid (show Below wr.heap.size wr (w9.setCell ⟨g, r * 5 + 4, none⟩ (.int .i64 (kd + 1))) from HBk.out.setCell hgB _)
                have HTs := Lib.hid (HTn.out.later HBs.out)
                have HCl := Lib.hid (copyTwigs_any _ _ (HTs.out.at'.take len1 (by omega)) (by rw [List.length_take]; omega))
                clear hgB
                go_wp2_with fail
                refine HCl.out.mono ?_
                rintro e w10 ⟨v10, rfl, ho, hb⟩
                have HBa := Lib.hid (HBs.out.trans (hb.mono HBs.out.size))
                have HTa := Lib.hid (HTs.out.later hb)
                have HRd := Lib.hid (TwRow.mk (HSt.out.later hb).tw HRok.out (by rw [raise_len, ← HLe.out]; omega))
                have HLd := Lib.hid (TwRow.mk ho.tw (fun t ht => HOk.out t (List.mem_of_mem_take ht)) (by rw [List.length_take]; omega))
                obtain ⟨qn, hqn⟩ : ∃ qn, qn = (l.take len1).length := ⟨_, rfl⟩
                unfold TwOwn at ho
                rw [← hqn] at ho
                obtain ⟨a10, p10, rfl⟩ := own_val ho
                clear ho hb hqn HCl hg4 hf4 c0
                have hPv := tParent_any _ (len1 : Int) _ HTa.out
                rw [parV_of HRi.out (by rw [← HLe.out]; omega)] at hPv
                have hLs := HLs.out
                rw [← HLe.out, Nat.add_sub_cancel] at hLs
                cases hpf : parF l len1
                all_goals
                  rw [hpf] at hPv hLs
                  simp only [Option.isNone_none, Option.isNone_some] at hPv hLs
                  have HPv := Lib.hid hPv
                  have HLr := Lib.hid hLs
                  clear hPv hLs hpf
                  go_wp2_with fail
                  refine HPv.out.mono ?_
                  rintro e w11 ⟨rfl, hb⟩
                  have HRe := Lib.hid (HRd.out.later hb)
                  have HLf := Lib.hid (HLd.out.later hb)
                  have HBc := Lib.hid (HBa.out.trans (hb.mono HBa.out.size))
                  clear hb
                  go_wp2_with fail
                  have hR := right_any _ _ _ HRe.out.at' HRe.out.ok HRe.out.len
                  rw [HRa.out] at hR
                  refine hR.mono ?_
                  clear hR
                  rintro e w12 ⟨rfl, hb⟩
                  have HLg := Lib.hid (HLf.out.later hb)
                  have HBd := Lib.hid (HBc.out.trans (hb.mono HBc.out.size))
                  clear hb
                  go_wp2_with fail
                  have hR := right_any _ _ _ HLg.out.at' HLg.out.ok HLg.out.len
                  rw [HLr.out] at hR
                  refine hR.mono ?_
                  clear hR
                  rintro e w13 ⟨rfl, hb⟩
                  go_wp2
                  go_ret
                  exact ⟨rfl, HBn.out.trans ((HBd.out.trans (hb.mono HBd.out.size)).mono HBn.out.size)⟩
  · have hm2 : (120 : Int) < len := by omega
    go_wp2
    go_ret
    exact ⟨rfl, HB1.out⟩
end Go.Proofs.Ytadkjjpopmiceaa
