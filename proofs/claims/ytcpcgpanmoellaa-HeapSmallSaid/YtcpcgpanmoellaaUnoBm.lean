import Derived.Test.YtcpcgpanmoellaaUnoAm
import Derived.LoopN
namespace Go.Proofs.Ytcpcgpanmoellaa
open Go.RowKit Go.Lib Go.Shelf
attribute [local go_sem] Oper.semAt_some

/-- what lies in the walk of none. -/
structure NW (w0 : World) (z : Nat) (Ds : List Nat) (w : World) : Prop where
  pR : w.heap[w0.heap.size]? = some (.cells #[.bool false] 4 (0, 0))
  pZ : w.heap[z]? = some (.cells #[.pointer none, .int .i64 0] 64 (0, 0))
  pS : w.heap[z + 1]? = some (.cells #[.pointer none, .pointer (some ⟨z, 0, none⟩)] 24 (0, 0))
  pD : ∀ D ∈ Ds, w.heap[D]? = some (.deferred (some [])) ∧ w0.heap.size ≤ D
  bel : Below w0.heap.size w0 w
theorem NW.later {w0 : World} {z : Nat} {Ds : List Nat} {w w' : World} (h : NW w0 z Ds w) (hb : Below w.heap.size w w') : NW w0 z Ds w' :=
  ⟨(hb.block _ (lt_of_block h.pR)).trans h.pR, (hb.block _ (lt_of_block h.pZ)).trans h.pZ, (hb.block _ (lt_of_block h.pS)).trans h.pS, fun D hD => ⟨(hb.block _ (Array.getElem?_eq_some_iff.1 (h.pD D hD).1).1).trans (h.pD D hD).1, (h.pD D hD).2⟩, h.bel.trans (hb.mono h.bel.size)⟩
theorem NW.no1 {w0 : World} {z : Nat} {Ds : List Nat} {w : World} (_ : NW w0 z Ds w) : Unm w none := .inl rfl
theorem NW.no2 {w0 : World} {z : Nat} {Ds : List Nat} {w : World} (h : NW w0 z Ds w) : Unm w (some ⟨z, 0, none⟩) := .inr ⟨z, rfl, h.pZ⟩
theorem NW.cells {w0 : World} {z : Nat} {Ds : List Nat} {w : World} (h : NW w0 z Ds w) : w.cell? ⟨z + 1, 0, none⟩ = some (.pointer none) ∧ w.cell? ⟨z + 1, 1, none⟩ = some (.pointer (some ⟨z, 0, none⟩)) ∧ w.cell? ⟨w0.heap.size, 0, none⟩ = some (.bool false) ∧ w.frozen? ⟨w0.heap.size, 0, none⟩ = false :=
  ⟨(block_cell' h.pS 0).1, (block_cell' h.pS 1).1, (block_cell' h.pR 0).1, (block_cell' h.pR 0).2⟩
theorem ownFrom_NW {β : Type} {w0 : World} {z B : Nat} {Ds : List Nat} (h1 : w0.heap.size ≤ B) (hz : z + 1 < B) (hr : w0.heap.size < B) (hD : ∀ D ∈ Ds, D < B) : OwnFrom B (fun (_ : β) W => NW w0 z Ds W) := fun s A C row h hg hrow => by
  have st : ∀ {k : Nat} {o : Obj}, k < B → A.heap[k]? = some o → C.heap[k]? = some o := fun hk ho => (hg.block _ (Array.getElem?_eq_some_iff.1 ho).1 (fun e => by have := (hrow _ e.symm).1; omega)).trans ho
  exact ⟨st hr h.pR, st (by omega) h.pZ, st hz h.pS, fun D hd => ⟨st (hD D hd) (h.pD D hd).1, (h.pD D hd).2⟩, h.bel.grown hg h.bel.size (fun k e => by have := (hrow k e).1; omega)⟩

theorem none_end {w0 w : World} {z D0 D1 : Nat} (h : NW w0 z [D1, D0] w) (hne : D0 ≠ D1) :
    (w.setCell ⟨w0.heap.size, 0, none⟩ (.bool true)).heap[D1]? = some (.deferred (some [])) ∧ ((w.setCell ⟨w0.heap.size, 0, none⟩ (.bool true)).putObj D1 (.deferred none)).heap[D0]? = some (.deferred (some [])) ∧
      (((w.setCell ⟨w0.heap.size, 0, none⟩ (.bool true)).putObj D1 (.deferred none)).putObj D0 (.deferred none)).cell? ⟨w0.heap.size, 0, none⟩ = some (.bool true) ∧ Below w0.heap.size w0 (((w.setCell ⟨w0.heap.size, 0, none⟩ (.bool true)).putObj D1 (.deferred none)).putObj D0 (.deferred none)) := by
  obtain ⟨h1, g1⟩ := h.pD D1 (by simp)
  obtain ⟨h0, g0⟩ := h.pD D0 (by simp)
  have n1 : D1 ≠ w0.heap.size := fun e => by have := h.pR; rw [← e, h1] at this; simp at this
  have n0 : D0 ≠ w0.heap.size := fun e => by have := h.pR; rw [← e, h0] at this; simp at this
  have a1 : (w.setCell ⟨w0.heap.size, 0, none⟩ (.bool true)).heap[D1]? = some (.deferred (some [])) := (Below.heap_setCell _ _ _ _ n1).trans h1
  have a0 : (w.setCell ⟨w0.heap.size, 0, none⟩ (.bool true)).heap[D0]? = some (.deferred (some [])) := (Below.heap_setCell _ _ _ _ n0).trans h0
  have aR : (w.setCell ⟨w0.heap.size, 0, none⟩ (.bool true)).heap[w0.heap.size]? = some (.cells #[.bool true] 4 (0, 0)) := by rw [block_setCell' h.pR]; rfl
  refine ⟨a1, (World.putObj_heap_other hne).trans a0, ?_, ?_⟩
  · have : (((w.setCell ⟨w0.heap.size, 0, none⟩ (.bool true)).putObj D1 (.deferred none)).putObj D0 (.deferred none)).heap[w0.heap.size]? = some (.cells #[.bool true] 4 (0, 0)) := (World.putObj_heap_other (Ne.symm n0)).trans ((World.putObj_heap_other (Ne.symm n1)).trans aR)
    exact (block_cell' this 0).1
  · have b1 := h.bel.setCell (p := ⟨w0.heap.size, 0, none⟩) (Nat.le_refl _) (.bool true)
    have b2 := b1.grown (grownBy_putObj' _ D1 (.deferred none)) b1.size (fun k hk => by cases hk; exact g1)
    exact b2.grown (grownBy_putObj' _ D0 (.deferred none)) b2.size (fun k hk => by cases hk; exact g0)

set_option maxRecDepth 100000 in
set_option maxHeartbeats 8000000 in
theorem none_any (w : World) : Calls Try.prog 22 #[] w fun e w' => e = .returned (.bool true) ∧ Below w.heap.size w w' := by
  refine (callsIn_wide (n := 9)).1 ?_
  refine callsIn_of_wp_marks Try.func22 rfl trivial ?_ rfl
  simp only [Try.ntmps22, List.size_toArray, List.length_cons, List.length_nil, Nat.reduceAdd, Nat.reduceSub, Array.replicate_succ, Array.replicate_zero, List.push_toArray, List.append_toArray, List.nil_append, List.cons_append]
  refine wpIn_wide.2 (wp_mono (Q := noPanic (bodyPostM Fence.wide 9 Try.prog Try.f22 fun e w' => e = .returned (.bool true) ∧ Below w.heap.size w w')) ?_ (fun e a w h => noPanic_of h))
  go_wp2_with fail
  have hb0 : Below w.heap.size w (((w.alloc (.cells #[.bool false] 4)).alloc (.cells #[.pointer none, .int .i64 0] 64)).alloc (.cells #[.pointer none, .pointer (some ⟨w.heap.size + 1, 0, none⟩)] 24)) := (((Below.refl _ _).alloc (Nat.le_refl _) _).alloc (by simp) _).alloc (by simp; omega) _
  have hN : NW w (w.heap.size + 1) [] (((w.alloc (.cells #[.bool false] 4)).alloc (.cells #[.pointer none, .int .i64 0] 64)).alloc (.cells #[.pointer none, .pointer (some ⟨w.heap.size + 1, 0, none⟩)] 24)) := by
    refine ⟨?_, ?_, ?_, fun D hD => by simp at hD, hb0⟩
    · exact (heap_alloc_old _ _ (by simp; omega)).trans ((heap_alloc_old _ _ (by simp)).trans (heap_alloc_new w _))
    · have := heap_alloc_new (w.alloc (.cells #[.bool false] 4)) (.cells #[.pointer none, .int .i64 0] 64)
      exact (heap_alloc_old _ _ (by simp)).trans (by simpa using this)
    · have := heap_alloc_new ((w.alloc (.cells #[.bool false] 4)).alloc (.cells #[.pointer none, .int .i64 0] 64)) (.cells #[.pointer none, .pointer (some ⟨w.heap.size + 1, 0, none⟩)] 24)
      simpa using this
  have HN := Lib.hid hN
  clear hb0 hN
  obtain ⟨z, hz⟩ : ∃ z, z = w.heap.size + 1 := ⟨_, rfl⟩
  rw [← hz] at HN ⊢
  have HZ := Lib.hid hz
  clear hz
  generalize ((w.alloc (.cells #[.bool false] 4)).alloc (.cells #[.pointer none, .int .i64 0] 64)).alloc (.cells #[.pointer none, .pointer (some ⟨z, 0, none⟩)] 24) = w1 at HN ⊢
  refine wp_loop_rounds 3 ?_
  rw [rounds_succ]
  obtain ⟨c0, c1, c2, c3⟩ := HN.out.cells
  have HF0 := Lib.hid (uFirst none w1 HN.out.no1)
  go_wp2_with fail
  refine HF0.out.mono ?_
  rintro e wf0 ⟨rfl, hbf0⟩
  have HN0a := Lib.hid (HN.out.later hbf0)
  clear c0 c1 c2 c3 hbf0 HF0
  go_upto_region 6 with (fail)
  refine gen_world (S := fun u => Below wf0.heap.size wf0 u ∧ u.heap[wf0.heap.size]? = some (.cells #[.int .i64 0, .int .i64 0] 30 (0, 0))) (one_new wf0 _) (fun u0 hu0 => ?_)
  have HN0b := Lib.hid (HN0a.out.later hu0.1)
  have HX0 := Lib.hid hu0.2
  obtain ⟨X0, hX0⟩ : ∃ X, X = wf0.heap.size := ⟨_, rfl⟩
  rw [← hX0] at HX0 ⊢
  clear hu0 hX0 HN0a
  obtain ⟨c0, c1, c2, c3⟩ := HN0b.out.cells
  have HT0 := Lib.hid (uTake none u0 HN0b.out.no1)
  go_wp2_with fail
  refine HT0.out.mono ?_
  rintro e wt0 ⟨rfl, hbt0⟩
  have HN0c := Lib.hid (HN0b.out.later hbt0)
  have HX0c := Lib.hid ((hbt0.block _ (lt_of_block HX0.out)).trans HX0.out)
  clear c0 c1 c2 c3 hbt0 HT0 HN0b HX0
  go_upto_region 7 with (fail)
  refine gen_world (S := fun u => Below wt0.heap.size wt0 u ∧ u.heap[wt0.heap.size]? = some (.cells #[.int .i64 0, .int .i64 0] 30 (0, 0))) (one_new wt0 _) (fun v0 hv0 => ?_)
  have HN0d := Lib.hid (HN0c.out.later hv0.1)
  have HX0d := Lib.hid ((hv0.1.block _ (lt_of_block HX0c.out)).trans HX0c.out)
  have HY0d := Lib.hid hv0.2
  obtain ⟨Y0, hY0⟩ : ∃ Y, Y = wt0.heap.size := ⟨_, rfl⟩
  rw [← hY0] at HY0d ⊢
  clear hv0 hY0 HN0c HX0c
  obtain ⟨c0, c1, c2, c3⟩ := HN0d.out.cells
  have HK0 := Lib.hid (uKey 0 none v0 HN0d.out.no1)
  go_wp2_with fail
  refine HK0.out.mono ?_
  rintro e w' ⟨rfl, rfl⟩
  go_wp2_with fail
  refine (qAll_any none v0).mono ?_
  rintro e w' ⟨rfl, rfl⟩
  have hal0 := (Below.refl v0.heap.size v0).alloc (Nat.le_refl _) (.cells #[.pointer (none)] 24)
  have HN0e := Lib.hid (HN0d.out.later hal0)
  have HX0e := Lib.hid ((hal0.block _ (lt_of_block HX0d.out)).trans HX0d.out)
  have HY0e := Lib.hid ((hal0.block _ (lt_of_block HY0d.out)).trans HY0d.out)
  have HBa0 := Lib.hid (heap_alloc_new v0 (.cells #[.pointer (none)] 24))
  clear c0 c1 c2 c3 hal0 HK0 HN0d HX0d HY0d
  go_wp2_with fail
  obtain ⟨Ba0, hBa0⟩ : ∃ Ba, Ba = v0.heap.size := ⟨_, rfl⟩
  rw [← hBa0] at HBa0 ⊢
  clear hBa0
  generalize v0.alloc (.cells #[.pointer (none)] 24) = w0b at HN0e HX0e HY0e HBa0 ⊢
  refine (wpIn_wide (n := 9)).1 ?_
  refine range_skip (by omega) (gf := 31) (lb := #[.pointer (some ⟨Ba0, 0, none⟩)]) rfl (enters_of Try.func31 (by kernel_rfl) rfl) itv
    (uall_stops 8 (by omega) Ba0 none w0b 24 (KpE fun _ => False) HBa0.out HN0e.out.no1)
    (KpE.refl _) KpE.trans kpE_b
    (fun _ W' => (NW w z [] W' ∧ W'.heap[X0]? = some (.cells #[.int .i64 0, .int .i64 0] 30 (0, 0))) ∧ W'.heap[Y0]? = some (.cells #[.int .i64 0, .int .i64 0] 30 (0, 0))) (fun _ _ _ => False)
    (OwnFrom.and (OwnFrom.and (ownFrom_NW HN0e.out.bel.size (lt_of_block HN0e.out.pS) (lt_of_block HN0e.out.pR) (fun D hD => (Array.getElem?_eq_some_iff.1 (HN0e.out.pD D hD).1).1)) (Own.from (box3_own X0 _ (fun _ => #[.int .i64 0, .int .i64 0])) _)) (Own.from (box3_own Y0 _ (fun _ => #[.int .i64 0, .int .i64 0])) _))
    (fun _ _ _ _ _ hs _ _ => hs.elim) ⟨⟨HN0e.out, HX0e.out⟩, HY0e.out⟩ ?body0 ?done0 ?stop0
  case body0 => exact fun l2 pre y W' _ _ hlen => absurd hlen (Nat.not_lt_zero _)
  case stop0 => exact fun D c pre W' hD hpre => hpre.elim
  case done0 =>
    rintro D0 ys W0 hD - ⟨⟨hN', hX'⟩, hY'⟩ hKD
    have hge : w.heap.size ≤ D0 := Nat.le_trans HN0e.out.bel.size hD
    have HN0f : Hid (NW w z (D0 :: []) W0) := Lib.hid ⟨hN'.pR, hN'.pZ, hN'.pS, fun D hD => by rcases List.mem_cons.1 hD with rfl | h; exact ⟨hKD, hge⟩; exact hN'.pD D h, hN'.bel⟩
    have HX0f := Lib.hid hX'
    have HY0f := Lib.hid hY'
    clear hN' hX' hY' hKD hD hge HN0e HX0e HY0e HBa0
    obtain ⟨c0, c1, c2, c3⟩ := HN0f.out.cells
    go_wp2_with fail
    have hal0 := (Below.refl W0.heap.size W0).alloc (Nat.le_refl _) (.cells #[.int .i64 0, .int .i64 0] 30)
    have HN0g := Lib.hid (HN0f.out.later hal0)
    have HX0g := Lib.hid ((hal0.block _ (lt_of_block HX0f.out)).trans HX0f.out)
    have HY0g := Lib.hid ((hal0.block _ (lt_of_block HY0f.out)).trans HY0f.out)
    refine (uPut _ (none) _ HN0g.out.no1).mono ?_
    rintro e w' ⟨rfl, rfl⟩
    clear c0 c1 c2 c3 hal0 HN0f HX0f HY0f
    obtain ⟨c0, c1, c2, c3⟩ := HN0g.out.cells
    obtain ⟨x0, x1⟩ := two_box HX0g.out
    obtain ⟨y0, y1⟩ := two_box HY0g.out
    generalize W0.alloc (.cells #[.int .i64 0, .int .i64 0] 30) = w0g at HN0g HX0g HY0g c0 c1 c2 c3 x0 x1 y0 y1 ⊢
    go_wp2_with fail
    refine (uMove 0 0 (none) _ HN0g.out.no1).mono ?_
    rintro e w' ⟨rfl, rfl⟩
    go_wp2_with fail
    refine (uDrop 0 (none) _ HN0g.out.no1).mono ?_
    rintro e w' ⟨rfl, rfl⟩
    go_wp2_with fail
    refine (uLen (none) _ HN0g.out.no1).mono ?_
    rintro e w' ⟨rfl, rfl⟩
    go_wp2_with fail
    refine (uCopy (none) _ HN0g.out.no1).mono ?_
    rintro e w' ⟨rfl, rfl⟩
    clear c0 c1 c2 c3 x0 x1 y0 y1 HX0g HY0g
    go_wp2_with fail
    rw [rounds_succ]
    obtain ⟨c0, c1, c2, c3⟩ := HN0g.out.cells
    have HF1 := Lib.hid (uFirst (some ⟨z, 0, none⟩) w0g HN0g.out.no2)
    go_wp2_with fail
    refine HF1.out.mono ?_
    rintro e wf1 ⟨rfl, hbf1⟩
    have HN1a := Lib.hid (HN0g.out.later hbf1)
    clear c0 c1 c2 c3 hbf1 HF1
    go_upto_region 6 with (fail)
    refine gen_world (S := fun u => Below wf1.heap.size wf1 u ∧ u.heap[wf1.heap.size]? = some (.cells #[.int .i64 0, .int .i64 0] 30 (0, 0))) (one_new wf1 _) (fun u1 hu1 => ?_)
    have HN1b := Lib.hid (HN1a.out.later hu1.1)
    have HX1 := Lib.hid hu1.2
    obtain ⟨X1, hX1⟩ : ∃ X, X = wf1.heap.size := ⟨_, rfl⟩
    rw [← hX1] at HX1 ⊢
    clear hu1 hX1 HN1a
    obtain ⟨c0, c1, c2, c3⟩ := HN1b.out.cells
    have HT1 := Lib.hid (uTake (some ⟨z, 0, none⟩) u1 HN1b.out.no2)
    go_wp2_with fail
    refine HT1.out.mono ?_
    rintro e wt1 ⟨rfl, hbt1⟩
    have HN1c := Lib.hid (HN1b.out.later hbt1)
    have HX1c := Lib.hid ((hbt1.block _ (lt_of_block HX1.out)).trans HX1.out)
    clear c0 c1 c2 c3 hbt1 HT1 HN1b HX1
    go_upto_region 7 with (fail)
    refine gen_world (S := fun u => Below wt1.heap.size wt1 u ∧ u.heap[wt1.heap.size]? = some (.cells #[.int .i64 0, .int .i64 0] 30 (0, 0))) (one_new wt1 _) (fun v1 hv1 => ?_)
    have HN1d := Lib.hid (HN1c.out.later hv1.1)
    have HX1d := Lib.hid ((hv1.1.block _ (lt_of_block HX1c.out)).trans HX1c.out)
    have HY1d := Lib.hid hv1.2
    obtain ⟨Y1, hY1⟩ : ∃ Y, Y = wt1.heap.size := ⟨_, rfl⟩
    rw [← hY1] at HY1d ⊢
    clear hv1 hY1 HN1c HX1c
    obtain ⟨c0, c1, c2, c3⟩ := HN1d.out.cells
    have HK1 := Lib.hid (uKey 0 (some ⟨z, 0, none⟩) v1 HN1d.out.no2)
    go_wp2_with fail
    refine HK1.out.mono ?_
    rintro e w' ⟨rfl, rfl⟩
    go_wp2_with fail
    refine (qAll_any (some ⟨z, 0, none⟩) v1).mono ?_
    rintro e w' ⟨rfl, rfl⟩
    have hal1 := (Below.refl v1.heap.size v1).alloc (Nat.le_refl _) (.cells #[.pointer ((some ⟨z, 0, none⟩))] 24)
    have HN1e := Lib.hid (HN1d.out.later hal1)
    have HX1e := Lib.hid ((hal1.block _ (lt_of_block HX1d.out)).trans HX1d.out)
    have HY1e := Lib.hid ((hal1.block _ (lt_of_block HY1d.out)).trans HY1d.out)
    have HBa1 := Lib.hid (heap_alloc_new v1 (.cells #[.pointer ((some ⟨z, 0, none⟩))] 24))
    clear c0 c1 c2 c3 hal1 HK1 HN1d HX1d HY1d
    go_wp2_with fail
    obtain ⟨Ba1, hBa1⟩ : ∃ Ba, Ba = v1.heap.size := ⟨_, rfl⟩
    rw [← hBa1] at HBa1 ⊢
    clear hBa1
    generalize v1.alloc (.cells #[.pointer ((some ⟨z, 0, none⟩))] 24) = w1b at HN1e HX1e HY1e HBa1 ⊢
    refine (wpIn_wide (n := 9)).1 ?_
    refine range_skip (by omega) (gf := 31) (lb := #[.pointer (some ⟨Ba1, 0, none⟩)]) rfl (enters_of Try.func31 (by kernel_rfl) rfl) itv
      (uall_stops 8 (by omega) Ba1 (some ⟨z, 0, none⟩) w1b 24 (KpE fun _ => False) HBa1.out HN1e.out.no2)
      (KpE.refl _) KpE.trans kpE_b
      (fun _ W' => (NW w z (D0 :: []) W' ∧ W'.heap[X1]? = some (.cells #[.int .i64 0, .int .i64 0] 30 (0, 0))) ∧ W'.heap[Y1]? = some (.cells #[.int .i64 0, .int .i64 0] 30 (0, 0))) (fun _ _ _ => False)
      (OwnFrom.and (OwnFrom.and (ownFrom_NW HN1e.out.bel.size (lt_of_block HN1e.out.pS) (lt_of_block HN1e.out.pR) (fun D hD => (Array.getElem?_eq_some_iff.1 (HN1e.out.pD D hD).1).1)) (Own.from (box3_own X1 _ (fun _ => #[.int .i64 0, .int .i64 0])) _)) (Own.from (box3_own Y1 _ (fun _ => #[.int .i64 0, .int .i64 0])) _))
      (fun _ _ _ _ _ hs _ _ => hs.elim) ⟨⟨HN1e.out, HX1e.out⟩, HY1e.out⟩ ?body1 ?done1 ?stop1
    case body1 => exact fun l2 pre y W' _ _ hlen => absurd hlen (Nat.not_lt_zero _)
    case stop1 => exact fun D c pre W' hD hpre => hpre.elim
    case done1 =>
      rintro D1 ys W1 hD - ⟨⟨hN', hX'⟩, hY'⟩ hKD
      have hge : w.heap.size ≤ D1 := Nat.le_trans HN1e.out.bel.size hD
      have hne : D0 ≠ D1 := fun e => by have := (Array.getElem?_eq_some_iff.1 (HN1e.out.pD D0 (by simp)).1).1; omega
      have HN1f : Hid (NW w z (D1 :: (D0 :: [])) W1) := Lib.hid ⟨hN'.pR, hN'.pZ, hN'.pS, fun D hD => by rcases List.mem_cons.1 hD with rfl | h; exact ⟨hKD, hge⟩; exact hN'.pD D h, hN'.bel⟩
      have HX1f := Lib.hid hX'
      have HY1f := Lib.hid hY'
      clear hN' hX' hY' hKD hD hge HN1e HX1e HY1e HBa1
      obtain ⟨c0, c1, c2, c3⟩ := HN1f.out.cells
      go_wp2_with fail
      have hal1 := (Below.refl W1.heap.size W1).alloc (Nat.le_refl _) (.cells #[.int .i64 0, .int .i64 0] 30)
      have HN1g := Lib.hid (HN1f.out.later hal1)
      have HX1g := Lib.hid ((hal1.block _ (lt_of_block HX1f.out)).trans HX1f.out)
      have HY1g := Lib.hid ((hal1.block _ (lt_of_block HY1f.out)).trans HY1f.out)
      refine (uPut _ ((some ⟨z, 0, none⟩)) _ HN1g.out.no2).mono ?_
      rintro e w' ⟨rfl, rfl⟩
      clear c0 c1 c2 c3 hal1 HN1f HX1f HY1f
      obtain ⟨c0, c1, c2, c3⟩ := HN1g.out.cells
      obtain ⟨x0, x1⟩ := two_box HX1g.out
      obtain ⟨y0, y1⟩ := two_box HY1g.out
      generalize W1.alloc (.cells #[.int .i64 0, .int .i64 0] 30) = w1g at HN1g HX1g HY1g c0 c1 c2 c3 x0 x1 y0 y1 ⊢
      go_wp2_with fail
      refine (uMove 0 0 ((some ⟨z, 0, none⟩)) _ HN1g.out.no2).mono ?_
      rintro e w' ⟨rfl, rfl⟩
      go_wp2_with fail
      refine (uDrop 0 ((some ⟨z, 0, none⟩)) _ HN1g.out.no2).mono ?_
      rintro e w' ⟨rfl, rfl⟩
      go_wp2_with fail
      refine (uLen ((some ⟨z, 0, none⟩)) _ HN1g.out.no2).mono ?_
      rintro e w' ⟨rfl, rfl⟩
      go_wp2_with fail
      refine (uCopy ((some ⟨z, 0, none⟩)) _ HN1g.out.no2).mono ?_
      rintro e w' ⟨rfl, rfl⟩
      clear c0 c1 c2 c3 x0 x1 y0 y1 HX1g HY1g
      go_wp2_with fail
      rw [rounds_succ]
      obtain ⟨c0, c1, c2, c3⟩ := HN1g.out.cells
      go_wp2_with fail
      obtain ⟨e1, e2, e3, e4⟩ := none_end HN1g.out hne
      refine ⟨by simp, .inl ⟨_, _, rfl, run_takeDeferred e1, by simp, .inl ⟨_, _, rfl, run_takeDeferred e2, ?_⟩⟩⟩
      exact ⟨.bool true, by simp [results, Try.f22, go_sem, e3], rfl, e4⟩
end Go.Proofs.Ytcpcgpanmoellaa
