/-
  A store in which some pairs are live.
-/
import Derived.Test.YtebgleehmgmfbaaSiz
namespace Go.Proofs.Ytebgleehmgmfbaa
open Go.RowKit Go.Lib

theorem Try.infoPair26 : (Try.prog.info? 24).map (fun i => (i.zero, i.size, i.bytes)) = some (some (.agg #[.int .i64 0, .int .i64 0]), 2, 16) := by kernel_rfl
/-- the live pairs, as they were begun. -/
structure BgF (F : Live) (k : Nat) : Prop where
  all : ∀ x ∈ F, x.2.is = true ∧ x.2.lev = 1 ∧ x.2.tree = [] ∧ 0 ≤ x.2.en ∧ x.2.en < k
  up : F.Pairwise fun a b => a.2.en < b.2.en
  le : F.length ≤ k
theorem BgF.nil : BgF [] 0 := ⟨fun x hx => by simp at hx, List.Pairwise.nil, by simp⟩
theorem BgF.step {F : Live} {k : Nat} (h : BgF F k) : BgF F (k + 1) := ⟨fun x hx => by have := h.all x hx; refine ⟨this.1, this.2.1, this.2.2.1, this.2.2.2.1, by have := this.2.2.2.2; omega⟩, h.up, by have := h.le; omega⟩
theorem BgF.put {F : Live} {k : Nat} (h : BgF F k) (p : Pr) (v : Value) : BgF (F ++ [(p, ⟨true, k, 1, [], v⟩)]) (k + 1) :=
  ⟨fun x hx => by
    rcases List.mem_append.1 hx with hx | hx
    · exact h.step.all x hx
    · simp at hx; subst hx; exact ⟨rfl, rfl, rfl, by simp, by simp; omega⟩,
   List.pairwise_append.2 ⟨h.up, List.pairwise_singleton _ _, fun a ha b hb => by simp at hb; subst hb; exact (h.all a ha).2.2.2.2⟩,
   by have := h.le; simp; omega⟩

theorem grow_keepT [Watch] {base n0 C0 : Nat} {e : TypeId} {w w1 w2 : World} {v : Value} {xs : List Value} (hr : w.ownsRow base e C0 v n0 xs) (hbel : Below w.heap.size w w1) (hgrow : w1.grownBy w2 v.ownBlock) (he : e ∉ [35, 51, 36]) : KeepT base [e] false w w2 :=
  Keeps.mono ((Keeps.ofNew hbel _).grown hgrow (fun k hk => hk)) fun k _ hk => by
    rcases hr.2 with ⟨e, _⟩ | ⟨g, cap, cur, e, hg, hc, _⟩
    · rw [e] at hk; simp [Value.ownBlock] at hk
    · rw [e] at hk
      simp [Value.ownBlock] at hk
      subst hk
      exact ⟨hg, by unfold Tyb; rw [hc]; exact ⟨by simp, fun h => absurd h he⟩⟩
set_option maxRecDepth 100000 in
set_option maxHeartbeats 4000000 in
theorem begun_any (pv : Value) {L : List Pr} (w : World) (hp : PrsAt w pv L) (hw : ∀ p ∈ L, W64 p) (hl : L.length ≤ 1000) :
    Calls Try.prog 9 #[pv] w fun e w' => ∃ F sv v2, e = .returned (.tuple #[.pointer (some ⟨w.heap.size + 1, 0, none⟩), v2]) ∧ StIs w.heap.size w' (w.heap.size + 1) w.heap.size sv F ∧ w'.ownsRow w.heap.size 24 2 v2 F.length (pcs F) ∧ BgF F L.length ∧ Below w.heap.size w w' := by
  obtain ⟨pao, pcap, rfl⟩ := hp.val
  have HP := Lib.hid hp
  have HW := Lib.hid hw
  obtain ⟨q, hq⟩ : ∃ q, q = L.length := ⟨_, rfl⟩
  have Hq := Lib.hid hq
  rw [← hq] at HP hl ⊢
  clear hp hw hq
  obtain ⟨i0, hi, hz0, hz1, hz2⟩ := info_parts Try.infoPair26
  go_enter Try.func9, Try.ntmps9
  go_wp2_with fail
  refine (st_new w w.heap.size (Nat.le_refl _)).mono ?_
  rintro e w1 ⟨rfl, hst, hb1⟩
  have HST := Lib.hid hst
  have HB1 := Lib.hid hb1
  clear hst hb1
  go_wp2_with fail
  go_loopw [5, 6] (fun v5 v6 wr => ∃ F sv, ∃ k : Nat, k ≤ q ∧ v6 = .int .i64 k ∧ StIs w.heap.size wr (w.heap.size + 1) w.heap.size sv F ∧ wr.ownsRow w.heap.size 24 2 v5 F.length (pcs F) ∧ BgF F k ∧ Below w.heap.size w wr) (fun _ i _ => q - (intOf i).toNat)
  case atStart => exact ⟨[], _, 0, Nat.zero_le _, rfl, HST.out, ⟨by simp, .inl ⟨rfl, rfl⟩⟩, BgF.nil, HB1.out⟩
  case round =>
    obtain ⟨F, sv, k, hk, rfl, hst, hrow, hbg, hbel⟩ := hrel
    obtain ⟨fo, fc, rfl⟩ := own_val hrow
    have HSt := Lib.hid hst
    have HRow := Lib.hid hrow
    have HBg := Lib.hid hbg
    have Hbel := Lib.hid hbel
    clear hst hrow hbg hbel HST HB1
    by_cases hlt : k < q
    · have hlt' : (k : Int) < q := by omega
      have hw9 : IntKind.i64.wrap ((k : Int) + 1) = (k : Int) + 1 := IntWalk.i64_in _ (by omega)
      have hlg : k < L.length := by rw [← Hq.out]; exact hlt
      obtain ⟨b, off, rfl, hbl, l0, l1⟩ := HP.out.cells.2.2.2.2 k hlg
      have HWf := Lib.hid (HW.out _ (List.getElem_mem hlg))
      obtain ⟨p, hpe⟩ : ∃ p, p = L[k]'hlg := ⟨_, rfl⟩
      rw [← hpe] at l0 l1 HWf
      have L0 := Lib.hid l0
      have L1 := Lib.hid l1
      have HFl := Lib.hid (show F.length < 100000 from by have := HBg.out.le; omega)
      have HDr := Lib.hid (Below.refl wr.heap.size wr).drew
      have Hlt := Lib.hid hlt
      clear hpe l0 l1 hlt hlg hbl
      by_cases hm : ∃ f, (p, f) ∈ F
      · obtain ⟨f, hm⟩ := hm
        have HMem := Lib.hid hm
        clear hm
        go_upto_region 6 with (fail)
        · skip
          refine wp_region_held_drew (S := fun wq => Below w.heap.size w wq) (by kernel_rfl) (Hbel.out.drew) (fun hS => ?_)
          refine wpAnyH_take (i := 0) (oi := ⟨_, _, _, _, _, _⟩) (v := ?v1) rfl (by kernel_rfl) (by kernel_rfl) (by kernel_rfl) (fun _ _ _ h => h) ?y1 hS ?_
          case y1 => first | (refine Or.inr ⟨by rfl, ?_⟩; with_reducible rfl) | (refine Or.inl ⟨by rfl, ?_⟩; intro wS hSw; have l0S := cell_later hSw L0.out; have l1S := cell_later hSw L1.out; go_simp; try with_reducible rfl)
          simp only [Act.put, List.setIfInBounds_toArray, List.set_cons_zero, List.set_cons_succ]
          refine wpAnyH_take (i := 1) (oi := ⟨_, _, _, _, _, _⟩) (v := ?v2) rfl (by kernel_rfl) (by kernel_rfl) (by kernel_rfl) (fun _ _ _ h => h) ?y2 hS ?_
          case y2 => first | (refine Or.inr ⟨by rfl, ?_⟩; with_reducible rfl) | (refine Or.inl ⟨by rfl, ?_⟩; intro wS hSw; have l0S := cell_later hSw L0.out; have l1S := cell_later hSw L1.out; go_simp; try with_reducible rfl)
          simp only [Act.put, List.setIfInBounds_toArray, List.set_cons_zero, List.set_cons_succ]
          refine wpAnyH_take (i := 2) (oi := ⟨_, _, _, _, _, _⟩) (v := ?v3) rfl (by kernel_rfl) (by kernel_rfl) (by kernel_rfl) (fun _ _ _ h => h) ?y3 hS ?_
          case y3 => first | (refine Or.inr ⟨by rfl, ?_⟩; with_reducible rfl) | (refine Or.inl ⟨by rfl, ?_⟩; intro wS hSw; have l0S := cell_later hSw L0.out; have l1S := cell_later hSw L1.out; go_simp; try with_reducible rfl)
          simp only [Act.put, List.setIfInBounds_toArray, List.set_cons_zero, List.set_cons_succ]
          refine wpAnyH_take (i := 3) (oi := ⟨_, _, _, _, _, _⟩) (v := ?v4) rfl (by kernel_rfl) (by kernel_rfl) (by kernel_rfl) (fun _ _ _ h => h) ?y4 hS ?_
          case y4 => first | (refine Or.inr ⟨by rfl, ?_⟩; with_reducible rfl) | (refine Or.inl ⟨by rfl, ?_⟩; intro wS hSw; have l0S := cell_later hSw L0.out; have l1S := cell_later hSw L1.out; go_simp; try with_reducible rfl)
          simp only [Act.put, List.setIfInBounds_toArray, List.set_cons_zero, List.set_cons_succ]
          refine wpAnyH_take (i := 4) (oi := ⟨_, _, _, _, _, _⟩) (v := ?v5) rfl (by kernel_rfl) (by kernel_rfl) (by kernel_rfl) (fun _ _ _ h => h) ?y5 hS ?_
          case y5 => first | (refine Or.inr ⟨by rfl, ?_⟩; with_reducible rfl) | (refine Or.inl ⟨by rfl, ?_⟩; intro wS hSw; have l0S := cell_later hSw L0.out; have l1S := cell_later hSw L1.out; go_simp; try with_reducible rfl)
          simp only [Act.put, List.setIfInBounds_toArray, List.set_cons_zero, List.set_cons_succ]
          refine wpAnyH_take (i := 5) (oi := ⟨_, _, _, _, _, _⟩) (v := ?v6) rfl (by kernel_rfl) (by kernel_rfl) (by kernel_rfl) (fun _ _ _ h => h) ?y6 hS ?_
          case y6 => first | (refine Or.inr ⟨by rfl, ?_⟩; with_reducible rfl) | (refine Or.inl ⟨by rfl, ?_⟩; intro wS hSw; have l0S := cell_later hSw L0.out; have l1S := cell_later hSw L1.out; go_simp; try with_reducible rfl)
          simp only [Act.put, List.setIfInBounds_toArray, List.set_cons_zero, List.set_cons_succ]
          refine wpAnyH_take (i := 6) (oi := ⟨_, _, _, _, _, _⟩) (v := ?v7) rfl (by kernel_rfl) (by kernel_rfl) (by kernel_rfl) (fun _ _ _ h => h) ?y7 hS ?_
          case y7 => first | (refine Or.inr ⟨by rfl, ?_⟩; with_reducible rfl) | (refine Or.inl ⟨by rfl, ?_⟩; intro wS hSw; have l0S := cell_later hSw L0.out; have l1S := cell_later hSw L1.out; go_simp; try with_reducible rfl)
          simp only [Act.put, List.setIfInBounds_toArray, List.set_cons_zero, List.set_cons_succ]
          refine wpAnyH_take (i := 7) (oi := ⟨_, _, _, _, _, _⟩) (v := ?v8) rfl (by kernel_rfl) (by kernel_rfl) (by kernel_rfl) (fun _ _ _ h => h) ?y8 hS ?_
          case y8 => first | (refine Or.inr ⟨by rfl, ?_⟩; with_reducible rfl) | (refine Or.inl ⟨by rfl, ?_⟩; intro wS hSw; have l0S := cell_later hSw L0.out; have l1S := cell_later hSw L1.out; go_simp; try with_reducible rfl)
          simp only [Act.put, List.setIfInBounds_toArray, List.set_cons_zero, List.set_cons_succ]
          refine wpAnyH_take (i := 8) (oi := ⟨_, _, _, _, _, _⟩) (v := ?v9) rfl (by kernel_rfl) (by kernel_rfl) (by kernel_rfl) (fun _ _ _ h => h) ?y9 hS ?_
          case y9 => first | (refine Or.inr ⟨by rfl, ?_⟩; with_reducible rfl) | (refine Or.inl ⟨by rfl, ?_⟩; intro wS hSw; have l0S := cell_later hSw L0.out; have l1S := cell_later hSw L1.out; go_simp; try with_reducible rfl)
          simp only [Act.put, List.setIfInBounds_toArray, List.set_cons_zero, List.set_cons_succ]
          refine wpAnyH_take (i := 9) (oi := ⟨_, _, _, _, _, _⟩) (v := ?v10) rfl (by kernel_rfl) (by kernel_rfl) (by kernel_rfl) (fun _ _ _ h => h) ?y10 hS ?_
          case y10 => first | (refine Or.inr ⟨by rfl, ?_⟩; with_reducible rfl) | (refine Or.inl ⟨by rfl, ?_⟩; intro wS hSw; have l0S := cell_later hSw L0.out; have l1S := cell_later hSw L1.out; go_simp; try with_reducible rfl)
          simp only [Act.put, List.setIfInBounds_toArray, List.set_cons_zero, List.set_cons_succ]
          refine wpAnyH_take (i := 10) (oi := ⟨_, _, _, _, _, _⟩) (v := ?v11) rfl (by kernel_rfl) (by kernel_rfl) (by kernel_rfl) (fun _ _ _ h => h) ?y11 hS ?_
          case y11 => first | (refine Or.inr ⟨by rfl, ?_⟩; with_reducible rfl) | (refine Or.inl ⟨by rfl, ?_⟩; intro wS hSw; have l0S := cell_later hSw L0.out; have l1S := cell_later hSw L1.out; go_simp; try with_reducible rfl)
          simp only [Act.put, List.setIfInBounds_toArray, List.set_cons_zero, List.set_cons_succ]
          refine wpAnyH_ready (rs := [11]) (by kernel_rfl) (by simp) ?_
          refine AllReadyH.cons (o := ⟨_, _, _, _, _, _⟩) rfl (fun K hK => ?_) AllReadyH.nil
          go_simp
          refine (st_twice _ (HSt.out.later HDr.out) HMem.out).mono ?_
          rintro e wx ⟨rfl, hbx⟩
          have hS : Below w.heap.size w wx := hS.trans (hbx.mono hS.size)
          go_wp2_with fail
          refine hK.out _ _ hS (fun _ => ?_)
          clear hK K
          try simp only [Act.put, List.setIfInBounds_toArray, List.set_cons_zero, List.set_cons_succ]
          refine wpAnyH_take (i := 12) (oi := ⟨_, _, _, _, _, _⟩) (v := ?v12) rfl (by kernel_rfl) (by kernel_rfl) (by kernel_rfl) (fun _ _ _ h => h) ?y12 hS ?_
          case y12 => first | (refine Or.inr ⟨by rfl, ?_⟩; with_reducible rfl) | (refine Or.inl ⟨by rfl, ?_⟩; intro wS hSw; have l0S := cell_later hSw L0.out; have l1S := cell_later hSw L1.out; go_simp; try with_reducible rfl)
          simp only [Act.put, List.setIfInBounds_toArray, List.set_cons_zero, List.set_cons_succ]
          refine wpAnyH_done (by kernel_rfl) ?_ _
          have HSx := Lib.hid (HSt.out.later (HDr.out.trans (hbx.mono HDr.out.size)))
          have HRx := Lib.hid (row_keepT (T := []) (B := 0) (mp := false) HRow.out (KeepT.ofBelow (HDr.out.trans (hbx.mono HDr.out.size))) (by simp))
          have HS := Lib.hid hS
          clear hS hbx
          go_wp2_with fail
          go_roundw
          case rel => exact ⟨F, sv, k + 1, Hlt.out, by go_num, HSx.out, HRx.out, HBg.out.step, HS.out⟩
          case measure => have := Hlt.out; simp [intOf]; omega
      · have HNm := Lib.hid (show ∀ x ∈ F, x.1 ≠ p from fun x hx e => hm ⟨x.2, by rw [← e]; exact hx⟩)
        clear hm
        go_upto_region 6 with (fail)
        · skip
          refine wp_region_held_drew (S := fun wq => Below w.heap.size w wq) (by kernel_rfl) (Hbel.out.drew) (fun hS => ?_)
          refine wpAnyH_take (i := 0) (oi := ⟨_, _, _, _, _, _⟩) (v := ?v13) rfl (by kernel_rfl) (by kernel_rfl) (by kernel_rfl) (fun _ _ _ h => h) ?y13 hS ?_
          case y13 => first | (refine Or.inr ⟨by rfl, ?_⟩; with_reducible rfl) | (refine Or.inl ⟨by rfl, ?_⟩; intro wS hSw; have l0S := cell_later hSw L0.out; have l1S := cell_later hSw L1.out; go_simp; try with_reducible rfl)
          simp only [Act.put, List.setIfInBounds_toArray, List.set_cons_zero, List.set_cons_succ]
          refine wpAnyH_take (i := 1) (oi := ⟨_, _, _, _, _, _⟩) (v := ?v14) rfl (by kernel_rfl) (by kernel_rfl) (by kernel_rfl) (fun _ _ _ h => h) ?y14 hS ?_
          case y14 => first | (refine Or.inr ⟨by rfl, ?_⟩; with_reducible rfl) | (refine Or.inl ⟨by rfl, ?_⟩; intro wS hSw; have l0S := cell_later hSw L0.out; have l1S := cell_later hSw L1.out; go_simp; try with_reducible rfl)
          simp only [Act.put, List.setIfInBounds_toArray, List.set_cons_zero, List.set_cons_succ]
          refine wpAnyH_take (i := 2) (oi := ⟨_, _, _, _, _, _⟩) (v := ?v15) rfl (by kernel_rfl) (by kernel_rfl) (by kernel_rfl) (fun _ _ _ h => h) ?y15 hS ?_
          case y15 => first | (refine Or.inr ⟨by rfl, ?_⟩; with_reducible rfl) | (refine Or.inl ⟨by rfl, ?_⟩; intro wS hSw; have l0S := cell_later hSw L0.out; have l1S := cell_later hSw L1.out; go_simp; try with_reducible rfl)
          simp only [Act.put, List.setIfInBounds_toArray, List.set_cons_zero, List.set_cons_succ]
          refine wpAnyH_take (i := 3) (oi := ⟨_, _, _, _, _, _⟩) (v := ?v16) rfl (by kernel_rfl) (by kernel_rfl) (by kernel_rfl) (fun _ _ _ h => h) ?y16 hS ?_
          case y16 => first | (refine Or.inr ⟨by rfl, ?_⟩; with_reducible rfl) | (refine Or.inl ⟨by rfl, ?_⟩; intro wS hSw; have l0S := cell_later hSw L0.out; have l1S := cell_later hSw L1.out; go_simp; try with_reducible rfl)
          simp only [Act.put, List.setIfInBounds_toArray, List.set_cons_zero, List.set_cons_succ]
          refine wpAnyH_take (i := 4) (oi := ⟨_, _, _, _, _, _⟩) (v := ?v17) rfl (by kernel_rfl) (by kernel_rfl) (by kernel_rfl) (fun _ _ _ h => h) ?y17 hS ?_
          case y17 => first | (refine Or.inr ⟨by rfl, ?_⟩; with_reducible rfl) | (refine Or.inl ⟨by rfl, ?_⟩; intro wS hSw; have l0S := cell_later hSw L0.out; have l1S := cell_later hSw L1.out; go_simp; try with_reducible rfl)
          simp only [Act.put, List.setIfInBounds_toArray, List.set_cons_zero, List.set_cons_succ]
          refine wpAnyH_take (i := 5) (oi := ⟨_, _, _, _, _, _⟩) (v := ?v18) rfl (by kernel_rfl) (by kernel_rfl) (by kernel_rfl) (fun _ _ _ h => h) ?y18 hS ?_
          case y18 => first | (refine Or.inr ⟨by rfl, ?_⟩; with_reducible rfl) | (refine Or.inl ⟨by rfl, ?_⟩; intro wS hSw; have l0S := cell_later hSw L0.out; have l1S := cell_later hSw L1.out; go_simp; try with_reducible rfl)
          simp only [Act.put, List.setIfInBounds_toArray, List.set_cons_zero, List.set_cons_succ]
          refine wpAnyH_take (i := 6) (oi := ⟨_, _, _, _, _, _⟩) (v := ?v19) rfl (by kernel_rfl) (by kernel_rfl) (by kernel_rfl) (fun _ _ _ h => h) ?y19 hS ?_
          case y19 => first | (refine Or.inr ⟨by rfl, ?_⟩; with_reducible rfl) | (refine Or.inl ⟨by rfl, ?_⟩; intro wS hSw; have l0S := cell_later hSw L0.out; have l1S := cell_later hSw L1.out; go_simp; try with_reducible rfl)
          simp only [Act.put, List.setIfInBounds_toArray, List.set_cons_zero, List.set_cons_succ]
          refine wpAnyH_take (i := 7) (oi := ⟨_, _, _, _, _, _⟩) (v := ?v20) rfl (by kernel_rfl) (by kernel_rfl) (by kernel_rfl) (fun _ _ _ h => h) ?y20 hS ?_
          case y20 => first | (refine Or.inr ⟨by rfl, ?_⟩; with_reducible rfl) | (refine Or.inl ⟨by rfl, ?_⟩; intro wS hSw; have l0S := cell_later hSw L0.out; have l1S := cell_later hSw L1.out; go_simp; try with_reducible rfl)
          simp only [Act.put, List.setIfInBounds_toArray, List.set_cons_zero, List.set_cons_succ]
          refine wpAnyH_take (i := 8) (oi := ⟨_, _, _, _, _, _⟩) (v := ?v21) rfl (by kernel_rfl) (by kernel_rfl) (by kernel_rfl) (fun _ _ _ h => h) ?y21 hS ?_
          case y21 => first | (refine Or.inr ⟨by rfl, ?_⟩; with_reducible rfl) | (refine Or.inl ⟨by rfl, ?_⟩; intro wS hSw; have l0S := cell_later hSw L0.out; have l1S := cell_later hSw L1.out; go_simp; try with_reducible rfl)
          simp only [Act.put, List.setIfInBounds_toArray, List.set_cons_zero, List.set_cons_succ]
          refine wpAnyH_take (i := 9) (oi := ⟨_, _, _, _, _, _⟩) (v := ?v22) rfl (by kernel_rfl) (by kernel_rfl) (by kernel_rfl) (fun _ _ _ h => h) ?y22 hS ?_
          case y22 => first | (refine Or.inr ⟨by rfl, ?_⟩; with_reducible rfl) | (refine Or.inl ⟨by rfl, ?_⟩; intro wS hSw; have l0S := cell_later hSw L0.out; have l1S := cell_later hSw L1.out; go_simp; try with_reducible rfl)
          simp only [Act.put, List.setIfInBounds_toArray, List.set_cons_zero, List.set_cons_succ]
          refine wpAnyH_take (i := 10) (oi := ⟨_, _, _, _, _, _⟩) (v := ?v23) rfl (by kernel_rfl) (by kernel_rfl) (by kernel_rfl) (fun _ _ _ h => h) ?y23 hS ?_
          case y23 => first | (refine Or.inr ⟨by rfl, ?_⟩; with_reducible rfl) | (refine Or.inl ⟨by rfl, ?_⟩; intro wS hSw; have l0S := cell_later hSw L0.out; have l1S := cell_later hSw L1.out; go_simp; try with_reducible rfl)
          simp only [Act.put, List.setIfInBounds_toArray, List.set_cons_zero, List.set_cons_succ]
          refine wpAnyH_ready (rs := [11]) (by kernel_rfl) (by simp) ?_
          refine AllReadyH.cons (o := ⟨_, _, _, _, _, _⟩) rfl (fun K hK => ?_) AllReadyH.nil
          go_simp
          refine (st_begin _ (HSt.out.later HDr.out) HNm.out HWf.out HFl.out).mono ?_
          rintro e wx ⟨rfl, ⟨sv2, hst2⟩, hk2⟩
          have hk3 : KeepT w.heap.size [67, 88] true wr wx := KeepT.trans (KeepT.ofBelow HDr.out) hk2
          have hS : Below w.heap.size w wx := Hbel.out.trans (KeepT.below hk3 Hbel.out.size)
          go_wp2_with fail
          refine hK.out _ _ hS (fun _ => ?_)
          clear hK K
          try simp only [Act.put, List.setIfInBounds_toArray, List.set_cons_zero, List.set_cons_succ]
          refine wpAnyH_take (i := 12) (oi := ⟨_, _, _, _, _, _⟩) (v := ?v24) rfl (by kernel_rfl) (by kernel_rfl) (by kernel_rfl) (fun _ _ _ h => h) ?y24 hS ?_
          case y24 => first | (refine Or.inr ⟨by rfl, ?_⟩; with_reducible rfl) | (refine Or.inl ⟨by rfl, ?_⟩; intro wS hSw; have l0S := cell_later hSw L0.out; have l1S := cell_later hSw L1.out; go_simp; try with_reducible rfl)
          simp only [Act.put, List.setIfInBounds_toArray, List.set_cons_zero, List.set_cons_succ]
          refine wpAnyH_done (by kernel_rfl) ?_ _
          have HSx := Lib.hid hst2
          have HRx := Lib.hid (row_keepT HRow.out hk3 (by decide))
          have HS := Lib.hid hS
          clear hS hk2 hk3 hst2
          go_wp2_with fail
          refine (st_Grow (en := (k : Int)) (lev := 1) (v := .slice none 0 0) (t := []) wx HSx.out (TwIn.nil _) (by simp) (.inl rfl)).mono ?_
          rintro e w3 ⟨rfl, ⟨v3, hst3⟩, hk3⟩
          have HS3 := Lib.hid hst3
          have HR3 := Lib.hid (row_keepT HRx.out hk3 (by simp))
          have HB3 := Lib.hid (HS.out.trans (KeepT.below hk3 HS.out.size))
          have l0 := cell_later HB3.out L0.out
          have l1 := cell_later HB3.out L1.out
          clear hst3 hk3
          go_upto_region 8 with (fail)
          have hFl := HFl.out
          go_wp2_with (at_builtin; refine wpList_append_mine _ rfl (.tmp 31) (.tmp 36) 22 rfl w.heap.size 24 i0 (.agg #[.int .i64 0, .int .i64 0]) 2 16 Try.underlying22 hi hz0 hz1 hz2 rfl (by decide) (.slice fo F.length fc) F.length (pcs F) rfl (HR3.out.alloc _) (some ⟨w3.heap.size, 0, none⟩) 1 1 (prc p) rfl (by simp [prc]) (by simp) (fun ad e j u hj => by cases e; exact cell_new_list w3 (prc p) 24 j u hj) (by intro u hu; simp [prc] at hu; rcases hu with rfl | rfl <;> rfl) (by unfold maxLen; omega) (by omega) (by have := HB3.out.size; simp; omega) ?_; intro v4 w4 hown4 hg4 hfr4; have hb4 := (HB3.out.alloc HB3.out.size _).grown hg4 (by have := HB3.out.size; simp; omega) (fun k hk => (HR3.out.lt k hk).1); have HG4 := Lib.hid hg4; have Hown4 := Lib.hid hown4; have Hb4 := Lib.hid hb4; clear hown4 hg4 hfr4 hb4)
          go_roundw
          case rel =>
            refine ⟨F ++ [(p, ⟨true, (k : Int), 1, [], v3⟩)], sv2, k + 1, Hlt.out, by go_num, HS3.out.keepT (grow_keepT HR3.out ((Below.refl _ _).alloc (Nat.le_refl _) _) HG4.out (by decide)) (by decide) (by decide) (by decide), ?_, HBg.out.put p v3, Hb4.out⟩
            have e1 : (F ++ [(p, (⟨true, (k : Int), 1, [], v3⟩ : Fd))]).length = F.length + 1 := by simp
            have e2 : pcs (F ++ [(p, (⟨true, (k : Int), 1, [], v3⟩ : Fd))]) = pcs F ++ prc p := by simp [prc, List.flatMap_append]
            rw [e1, e2]
            exact Hown4.out
          case measure => have := Hlt.out; simp [intOf]; omega
    · have hlt' : ¬ (k : Int) < q := by omega
      have hkq := Lib.hid (show k = q by omega)
      clear hk hlt
      go_wp2
      refine bodyPost_ret (v := .tuple #[.pointer (some ⟨w.heap.size + 1, 0, none⟩), .slice fo F.length fc]) (by simp [results, Try.f9, go_sem]) rfl ?_
      rw [← hkq.out]
      exact ⟨F, sv, _, rfl, HSt.out, HRow.out, HBg.out, Hbel.out⟩
end Go.Proofs.Ytebgleehmgmfbaa
