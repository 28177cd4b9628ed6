/-
  Chapter 05: none: of no arena.
-/
import Derived.Test.YtonnolhhgeekpaaNo5
import Derived.Test.YtonnolhhgeekpaaSetsW
import Derived.Test.YtonnolhhgeekpaaQuietIn
import Derived.LoopN
namespace Go.Proofs.Ytonnolhhgeekpaa
open Go.RowKit Go.Shelf
attribute [local go_sem] Oper.semAt_some

/-- what lies in the walk of none. -/
structure NW (w0 : World) (z : Nat) (Ds : List Nat) (w : World) : Prop where
  pR : w.heap[w0.heap.size]? = some (.cells #[.bool false] 4 (0, 0))
  pZ : w.heap[z]? = some (.cells #[.slice none 0 0, .int .i64 0, .int .i64 0, .bool false] 61 (0, 0))
  pS : w.heap[z + 1]? = some (.cells #[.pointer none, .pointer (some ⟨z, 0, none⟩)] 24 (0, 0))
  pD : ∀ D ∈ Ds, w.heap[D]? = some (.deferred (some [])) ∧ w0.heap.size ≤ D
  bel : Below w0.heap.size w0 w
theorem NW.later {w0 : World} {z : Nat} {Ds : List Nat} {w w' : World} (h : NW w0 z Ds w) (hb : Below w.heap.size w w') : NW w0 z Ds w' :=
  ⟨(hb.block _ (lt_of_block h.pR)).trans h.pR, (hb.block _ (lt_of_block h.pZ)).trans h.pZ, (hb.block _ (lt_of_block h.pS)).trans h.pS, fun D hD => ⟨(hb.block _ (Array.getElem?_eq_some_iff.1 (h.pD D hD).1).1).trans (h.pD D hD).1, (h.pD D hD).2⟩, h.bel.trans (hb.mono h.bel.size)⟩
theorem NW.no1 {w0 : World} {z : Nat} {Ds : List Nat} {w : World} (_ : NW w0 z Ds w) : NoA w none := .inl rfl
theorem NW.no2 {w0 : World} {z : Nat} {Ds : List Nat} {w : World} (h : NW w0 z Ds w) : NoA w (some ⟨z, 0, none⟩) := .inr ⟨z, rfl, h.pZ⟩
theorem NW.cells {w0 : World} {z : Nat} {Ds : List Nat} {w : World} (h : NW w0 z Ds w) : w.cell? ⟨z + 1, 0, none⟩ = some (.pointer none) ∧ w.cell? ⟨z + 1, 1, none⟩ = some (.pointer (some ⟨z, 0, none⟩)) ∧ w.cell? ⟨w0.heap.size, 0, none⟩ = some (.bool false) ∧ w.frozen? ⟨w0.heap.size, 0, none⟩ = false :=
  ⟨(block_cell' h.pS 0).1, (block_cell' h.pS 1).1, (block_cell' h.pR 0).1, (block_cell' h.pR 0).2⟩
theorem ownFrom_NW {β : Type} {w0 : World} {z B : Nat} {Ds : List Nat} (h1 : w0.heap.size ≤ B) (hz : z + 1 < B) (hr : w0.heap.size < B) (hD : ∀ D ∈ Ds, D < B) : OwnFrom B (fun (_ : β) W => NW w0 z Ds W) := fun s A C row h hg hrow => by
  have st : ∀ {k : Nat} {o : Obj}, k < B → A.heap[k]? = some o → C.heap[k]? = some o := fun hk ho => (hg.block _ (Array.getElem?_eq_some_iff.1 ho).1 (fun e => by have := (hrow _ e.symm).1; omega)).trans ho
  exact ⟨st hr h.pR, st (by omega) h.pZ, st hz h.pS, fun D hd => ⟨st (hD D hd) (h.pD D hd).1, (h.pD D hd).2⟩, h.bel.grown hg h.bel.size (fun k e => by have := (hrow k e).1; omega)⟩

theorem none_end {w0 w : World} {z D0 D1 : Nat} (h : NW w0 z [D1, D0] w) (hne : D0 ≠ D1) :
    (w.setCell ⟨w0.heap.size, 0, none⟩ (.bool true)).heap[D1]? = some (.deferred (some [])) ∧ ((w.setCell ⟨w0.heap.size, 0, none⟩ (.bool true)).putObj D1 (.deferred none)).heap[D0]? = some (.deferred (some [])) ∧
      (((w.setCell ⟨w0.heap.size, 0, none⟩ (.bool true)).putObj D1 (.deferred none)).putObj D0 (.deferred none)).cell? ⟨w0.heap.size, 0, none⟩ = some (.bool true) ∧ Below w0.heap.size w0 (((w.setCell ⟨w0.heap.size, 0, none⟩ (.bool true)).putObj D1 (.deferred none)).putObj D0 (.deferred none)) := by
  obtain ⟨h1, g1⟩ := h.pD D1 (by simp)
  obtain ⟨h0, g0⟩ := h.pD D0 (by simp)
  have n1 : D1 ≠ w0.heap.size := fun e => by have := h.pR; rw [← e, h1] at this; simp at this
  have n0 : D0 ≠ w0.heap.size := fun e => by have := h.pR; rw [← e, h0] at this; simp at this
  have a1 : (w.setCell ⟨w0.heap.size, 0, none⟩ (.bool true)).heap[D1]? = some (.deferred (some [])) := (Below.heap_setCell _ _ _ _ n1).trans h1
  have a0 : (w.setCell ⟨w0.heap.size, 0, none⟩ (.bool true)).heap[D0]? = some (.deferred (some [])) := (Below.heap_setCell _ _ _ _ n0).trans h0
  have aR : (w.setCell ⟨w0.heap.size, 0, none⟩ (.bool true)).heap[w0.heap.size]? = some (.cells #[.bool true] 4 (0, 0)) := by rw [block_setCell' h.pR]; rfl
  refine ⟨a1, (World.putObj_heap_other hne).trans a0, ?_, ?_⟩
  · have : (((w.setCell ⟨w0.heap.size, 0, none⟩ (.bool true)).putObj D1 (.deferred none)).putObj D0 (.deferred none)).heap[w0.heap.size]? = some (.cells #[.bool true] 4 (0, 0)) := (World.putObj_heap_other (Ne.symm n0)).trans ((World.putObj_heap_other (Ne.symm n1)).trans aR)
    exact (block_cell' this 0).1
  · have b1 := h.bel.setCell (p := ⟨w0.heap.size, 0, none⟩) (Nat.le_refl _) (.bool true)
    have b2 := b1.grown (grownBy_putObj' _ D1 (.deferred none)) b1.size (fun k hk => by cases hk; exact g1)
    exact b2.grown (grownBy_putObj' _ D0 (.deferred none)) b2.size (fun k hk => by cases hk; exact g0)

set_option maxRecDepth 100000 in
set_option maxHeartbeats 8000000 in
theorem none_any (w : World) : Calls Try.prog 27 #[] w fun e w' => e = .returned (.bool true) ∧ Below w.heap.size w w' := by
  refine (callsIn_wide (n := 9)).1 ?_
  refine callsIn_of_wp_marks Try.func27 rfl trivial ?_ rfl
  simp only [Try.ntmps27, List.size_toArray, List.length_cons, List.length_nil, Nat.reduceAdd, Nat.reduceSub, Array.replicate_succ, Array.replicate_zero, List.push_toArray, List.append_toArray, List.nil_append, List.cons_append]
  refine wpIn_wide.2 (wp_mono (Q := noPanic (bodyPostM Fence.wide 9 Try.prog Try.f27 fun e w' => e = .returned (.bool true) ∧ Below w.heap.size w w')) ?_ (fun e a w h => noPanic_of h))
  go_wp2_with fail
  have hb0 : Below w.heap.size w (((w.alloc (.cells #[.bool false] 4)).alloc (.cells #[.slice none 0 0, .int .i64 0, .int .i64 0, .bool false] 61)).alloc (.cells #[.pointer none, .pointer (some ⟨w.heap.size + 1, 0, none⟩)] 24)) := (((Below.refl _ _).alloc (Nat.le_refl _) _).alloc (by simp) _).alloc (by simp; omega) _
  have hN : NW w (w.heap.size + 1) [] (((w.alloc (.cells #[.bool false] 4)).alloc (.cells #[.slice none 0 0, .int .i64 0, .int .i64 0, .bool false] 61)).alloc (.cells #[.pointer none, .pointer (some ⟨w.heap.size + 1, 0, none⟩)] 24)) := by
    refine ⟨?_, ?_, ?_, fun D hD => by simp at hD, hb0⟩
    · exact (heap_alloc_old _ _ (by simp; omega)).trans ((heap_alloc_old _ _ (by simp)).trans (heap_alloc_new w _))
    · have := heap_alloc_new (w.alloc (.cells #[.bool false] 4)) (.cells #[.slice none 0 0, .int .i64 0, .int .i64 0, .bool false] 61)
      exact (heap_alloc_old _ _ (by simp)).trans (by simpa using this)
    · have := heap_alloc_new ((w.alloc (.cells #[.bool false] 4)).alloc (.cells #[.slice none 0 0, .int .i64 0, .int .i64 0, .bool false] 61)) (.cells #[.pointer none, .pointer (some ⟨w.heap.size + 1, 0, none⟩)] 24)
      simpa using this
  have HN := Lib.hid hN
  clear hb0 hN
  obtain ⟨z, hz⟩ : ∃ z, z = w.heap.size + 1 := ⟨_, rfl⟩
  rw [← hz] at HN ⊢
  have HZ := Lib.hid hz
  clear hz
  generalize ((w.alloc (.cells #[.bool false] 4)).alloc (.cells #[.slice none 0 0, .int .i64 0, .int .i64 0, .bool false] 61)).alloc (.cells #[.pointer none, .pointer (some ⟨z, 0, none⟩)] 24) = w1 at HN ⊢
  refine wp_loop_rounds 3 ?_
  rw [rounds_succ]
  obtain ⟨c0, c1, c2, c3⟩ := HN.out.cells
  go_wp2_with fail
  have hb0 : Below w1.heap.size w1 (w1.alloc (.cells #[.int .i64 1] 3)) := (Below.refl _ _).alloc (Nat.le_refl _) _
  have H0a := Lib.hid (HN.out.later hb0)
  refine (noPut _ none _ H0a.out.no1).mono ?_
  rintro e w' ⟨rfl, rfl⟩
  clear hb0 c0 c1 c2 c3 HN
  obtain ⟨c0, c1, c2, c3⟩ := H0a.out.cells
  generalize w1.alloc (.cells #[.int .i64 1] 3) = w0a at H0a c0 c1 c2 c3 ⊢
  go_wp2_with fail
  refine (noAt _ none 0 H0a.out.no1).mono ?_
  rintro e w' ⟨rfl, rfl⟩
  go_wp2_with fail
  refine (callsIn_wide.1 (all_in 5 (none) w0a)).mono ?_
  rintro e w' ⟨rfl, rfl⟩
  go_wp2_with fail
  have H0b := Lib.hid (H0a.out.later ((Below.refl w0a.heap.size w0a).alloc (Nat.le_refl _) (.cells #[.pointer (none)] 24)))
  have HBa0 := Lib.hid (heap_alloc_new w0a (.cells #[.pointer (none)] 24))
  obtain ⟨Ba, hBaE⟩ : ∃ Ba, Ba = w0a.heap.size := ⟨_, rfl⟩
  rw [← hBaE] at HBa0 ⊢
  clear hBaE c0 c1 c2 c3 H0a
  generalize w0a.alloc (.cells #[.pointer (none)] 24) = w0b at H0b HBa0 ⊢
  refine (wpIn_wide (n := 9)).1 ?_
  refine range_strong2 (α := Fin 0) #[] (by omega) (gf := 40) (lb := #[.pointer (some ⟨Ba, 0, none⟩)]) rfl (enters_of Try.func40 (by kernel_rfl) rfl)
    (encs := fun _ => #[.int .i64 0, .int .i64 0]) (Kp := KpX fun k => k = w0b.heap.size + 1) (S := fun _ => True) (Sp := fun _ => False) (N := 0)
    (fun l2 J2 Jx2 W3 hb hs3 hJ2 hJx2 hY2 h02 => (noAll1_in 8 (by omega) l2 Ba (none) W3 ((hb.block _ (lt_of_block HBa0.out)).trans HBa0.out) (H0b.out.later hb).no1).mono (fun e W' h => ⟨h.1, .inl ⟨[], trivial, by rw [h.2]; exact hJ2.alloc _ h02⟩⟩))
    KpX.trans (fun W o o' ho hc => KpX.putObj W _ o' rfl ho) (fun _ => rfl)
    (fun _ W' => NW w z [] W') (fun _ _ _ => False) (ownFrom_NW H0b.out.bel.size (lt_of_block H0b.out.pS) (lt_of_block H0b.out.pR) (fun D hD => (Array.getElem?_eq_some_iff.1 (H0b.out.pD D hD).1).1))
    (fun _ _ _ _ _ hs _ _ => hs.elim) H0b.out ?assign0 ?body0 ?done0 ?stop0
  case assign0 => exact fun l x => x.elim0
  case body0 => exact fun l2 pre y => y.elim0
  case stop0 => exact fun D c pre W' hD hpre => hpre.elim
  case done0 =>
    rintro D0 ys W' hD - hN' hKD
    have hge : w.heap.size ≤ D0 := Nat.le_trans H0b.out.bel.size hD
    have H0c : Hid (NW w z (D0 :: []) W') := Lib.hid ⟨hN'.pR, hN'.pZ, hN'.pS, fun D hD => by rcases List.mem_cons.1 hD with rfl | h; exact ⟨hKD, hge⟩; exact hN'.pD D h, hN'.bel⟩
    clear hN' hKD hD hge H0b HBa0
    obtain ⟨c0, c1, c2, c3⟩ := H0c.out.cells
    have HQSet := Lib.hid (fun m => noSet (W'.drewN m) (none) 0 1 (show NoA (W'.drewN m) (none) from H0c.out.no1))
    have HQBack := Lib.hid (fun m => noBack (W'.drewN m) (none) 0 (show NoA (W'.drewN m) (none) from H0c.out.no1))
    have HQLen := Lib.hid (fun m => noLen (W'.drewN m) (none) (show NoA (W'.drewN m) (none) from H0c.out.no1))
    have HQLeft := Lib.hid (fun m => noLeft (W'.drewN m) (none) (show NoA (W'.drewN m) (none) from H0c.out.no1))
    have HQMark := Lib.hid (fun m => noMark (W'.drewN m) (none) (show NoA (W'.drewN m) (none) from H0c.out.no1))
    have HQPeak := Lib.hid (fun m => noPeak (W'.drewN m) (none) (show NoA (W'.drewN m) (none) from H0c.out.no1))
    go_wp2_with fail
    go_quiet (first
    | (go_at_call 22; exact Calls.quiet_of_same ((HQSet.out _).mono fun e w' h => ⟨h.1, h.2.symm⟩))
      | (go_at_call 14; exact Calls.quiet_of_same ((HQBack.out _).mono fun e w' h => ⟨h.1, h.2.symm⟩))
      | (go_at_call 12; exact Calls.quiet_of_same ((HQLen.out _).mono fun e w' h => ⟨h.1, h.2.symm⟩))
      | (go_at_call 13; exact Calls.quiet_of_same ((HQLeft.out _).mono fun e w' h => ⟨h.1, h.2.symm⟩))
      | (go_at_call 10; exact Calls.quiet_of_same ((HQMark.out _).mono fun e w' h => ⟨h.1, h.2.symm⟩))
      | (go_at_call 15; exact Calls.quiet_of_same ((HQPeak.out _).mono fun e w' h => ⟨h.1, h.2.symm⟩)))
    have H0d : Hid (NW w z (D0 :: []) (W'.drewN nq)) := Lib.hid (H0c.out.later (below_draws (Below.refl _ _) nq))
    clear c0 c1 c2 c3 H0c HQSet HQBack HQLen HQLeft HQMark HQPeak
    generalize W'.drewN nq = w0d at H0d ⊢
    go_wp2_with fail
    rw [rounds_succ]
    obtain ⟨c0, c1, c2, c3⟩ := H0d.out.cells
    go_wp2_with fail
    have hb1 : Below w0d.heap.size w0d (w0d.alloc (.cells #[.int .i64 1] 3)) := (Below.refl _ _).alloc (Nat.le_refl _) _
    have H1a := Lib.hid (H0d.out.later hb1)
    refine (noPut _ (some ⟨z, 0, none⟩) _ H1a.out.no2).mono ?_
    rintro e w' ⟨rfl, rfl⟩
    clear hb1 c0 c1 c2 c3 H0d
    obtain ⟨c0, c1, c2, c3⟩ := H1a.out.cells
    generalize w0d.alloc (.cells #[.int .i64 1] 3) = w1a at H1a c0 c1 c2 c3 ⊢
    go_wp2_with fail
    refine (noAt _ (some ⟨z, 0, none⟩) 0 H1a.out.no2).mono ?_
    rintro e w' ⟨rfl, rfl⟩
    go_wp2_with fail
    refine (callsIn_wide.1 (all_in 5 ((some ⟨z, 0, none⟩)) w1a)).mono ?_
    rintro e w' ⟨rfl, rfl⟩
    go_wp2_with fail
    have H1b := Lib.hid (H1a.out.later ((Below.refl w1a.heap.size w1a).alloc (Nat.le_refl _) (.cells #[.pointer ((some ⟨z, 0, none⟩))] 24)))
    have HBa1 := Lib.hid (heap_alloc_new w1a (.cells #[.pointer ((some ⟨z, 0, none⟩))] 24))
    obtain ⟨Ba, hBaE⟩ : ∃ Ba, Ba = w1a.heap.size := ⟨_, rfl⟩
    rw [← hBaE] at HBa1 ⊢
    clear hBaE c0 c1 c2 c3 H1a
    generalize w1a.alloc (.cells #[.pointer ((some ⟨z, 0, none⟩))] 24) = w1b at H1b HBa1 ⊢
    refine (wpIn_wide (n := 9)).1 ?_
    refine range_strong2 (α := Fin 0) #[] (by omega) (gf := 40) (lb := #[.pointer (some ⟨Ba, 0, none⟩)]) rfl (enters_of Try.func40 (by kernel_rfl) rfl)
      (encs := fun _ => #[.int .i64 0, .int .i64 0]) (Kp := KpX fun k => k = w1b.heap.size + 1) (S := fun _ => True) (Sp := fun _ => False) (N := 0)
      (fun l2 J2 Jx2 W3 hb hs3 hJ2 hJx2 hY2 h02 => (noAll1_in 8 (by omega) l2 Ba ((some ⟨z, 0, none⟩)) W3 ((hb.block _ (lt_of_block HBa1.out)).trans HBa1.out) (H1b.out.later hb).no2).mono (fun e W' h => ⟨h.1, .inl ⟨[], trivial, by rw [h.2]; exact hJ2.alloc _ h02⟩⟩))
      KpX.trans (fun W o o' ho hc => KpX.putObj W _ o' rfl ho) (fun _ => rfl)
      (fun _ W' => NW w z (D0 :: []) W') (fun _ _ _ => False) (ownFrom_NW H1b.out.bel.size (lt_of_block H1b.out.pS) (lt_of_block H1b.out.pR) (fun D hD => (Array.getElem?_eq_some_iff.1 (H1b.out.pD D hD).1).1))
      (fun _ _ _ _ _ hs _ _ => hs.elim) H1b.out ?assign1 ?body1 ?done1 ?stop1
    case assign1 => exact fun l x => x.elim0
    case body1 => exact fun l2 pre y => y.elim0
    case stop1 => exact fun D c pre W' hD hpre => hpre.elim
    case done1 =>
      rintro D1 ys W' hD - hN' hKD
      have hge : w.heap.size ≤ D1 := Nat.le_trans H1b.out.bel.size hD
      have hne : D0 ≠ D1 := fun e => by have := (Array.getElem?_eq_some_iff.1 (H1b.out.pD D0 (by simp)).1).1; omega
      have H1c : Hid (NW w z (D1 :: D0 :: []) W') := Lib.hid ⟨hN'.pR, hN'.pZ, hN'.pS, fun D hD => by rcases List.mem_cons.1 hD with rfl | h; exact ⟨hKD, hge⟩; exact hN'.pD D h, hN'.bel⟩
      clear hN' hKD hD hge H1b HBa1
      obtain ⟨c0, c1, c2, c3⟩ := H1c.out.cells
      have HQSet := Lib.hid (fun m => noSet (W'.drewN m) ((some ⟨z, 0, none⟩)) 0 1 (show NoA (W'.drewN m) ((some ⟨z, 0, none⟩)) from H1c.out.no2))
      have HQBack := Lib.hid (fun m => noBack (W'.drewN m) ((some ⟨z, 0, none⟩)) 0 (show NoA (W'.drewN m) ((some ⟨z, 0, none⟩)) from H1c.out.no2))
      have HQLen := Lib.hid (fun m => noLen (W'.drewN m) ((some ⟨z, 0, none⟩)) (show NoA (W'.drewN m) ((some ⟨z, 0, none⟩)) from H1c.out.no2))
      have HQLeft := Lib.hid (fun m => noLeft (W'.drewN m) ((some ⟨z, 0, none⟩)) (show NoA (W'.drewN m) ((some ⟨z, 0, none⟩)) from H1c.out.no2))
      have HQMark := Lib.hid (fun m => noMark (W'.drewN m) ((some ⟨z, 0, none⟩)) (show NoA (W'.drewN m) ((some ⟨z, 0, none⟩)) from H1c.out.no2))
      have HQPeak := Lib.hid (fun m => noPeak (W'.drewN m) ((some ⟨z, 0, none⟩)) (show NoA (W'.drewN m) ((some ⟨z, 0, none⟩)) from H1c.out.no2))
      go_wp2_with fail
      go_quiet (first
      | (go_at_call 22; exact Calls.quiet_of_same ((HQSet.out _).mono fun e w' h => ⟨h.1, h.2.symm⟩))
        | (go_at_call 14; exact Calls.quiet_of_same ((HQBack.out _).mono fun e w' h => ⟨h.1, h.2.symm⟩))
        | (go_at_call 12; exact Calls.quiet_of_same ((HQLen.out _).mono fun e w' h => ⟨h.1, h.2.symm⟩))
        | (go_at_call 13; exact Calls.quiet_of_same ((HQLeft.out _).mono fun e w' h => ⟨h.1, h.2.symm⟩))
        | (go_at_call 10; exact Calls.quiet_of_same ((HQMark.out _).mono fun e w' h => ⟨h.1, h.2.symm⟩))
        | (go_at_call 15; exact Calls.quiet_of_same ((HQPeak.out _).mono fun e w' h => ⟨h.1, h.2.symm⟩)))
      have H1d : Hid (NW w z (D1 :: D0 :: []) (W'.drewN nq)) := Lib.hid (H1c.out.later (below_draws (Below.refl _ _) nq))
      clear c0 c1 c2 c3 H1c HQSet HQBack HQLen HQLeft HQMark HQPeak
      generalize W'.drewN nq = w1d at H1d ⊢
      go_wp2_with fail
      rw [rounds_succ]
      obtain ⟨c0, c1, c2, c3⟩ := H1d.out.cells
      go_wp2_with fail
      obtain ⟨e1, e2, e3, e4⟩ := none_end H1d.out hne
      refine ⟨by simp, .inl ⟨_, _, rfl, run_takeDeferred e1, by simp, .inl ⟨_, _, rfl, run_takeDeferred e2, ?_⟩⟩⟩
      exact ⟨.bool true, by simp [results, Try.f27, go_sem, e3], rfl, e4⟩
end Go.Proofs.Ytonnolhhgeekpaa
