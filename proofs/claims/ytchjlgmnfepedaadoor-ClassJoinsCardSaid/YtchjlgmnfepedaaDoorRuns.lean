/-
  Package class: Runs: the runs of a class.
-/
import Derived.Test.YtchjlgmnfepedaaDoorIter
namespace Go.Proofs.YtchjlgmnfepedaaDoor
open Go.RowKit Go.Lib Go.Shelf
attribute [local go_sem] Oper.semAt_some

theorem own_set {w : World} {base n size : Nat} {e : TypeId} {v : Value} {xs : List Value} (h : w.ownsRow base e size v n xs) {g cap : Nat} (hv : v = .slice (some ⟨g, 0, none⟩) n cap) {j : Nat} (hj : j < n * size) (u : Value) :
    (w.setCell ⟨g, j, none⟩ u).ownsRow base e size v n (xs.set j u) := by
  subst hv
  rcases h.2 with ⟨h0, _⟩ | ⟨g', cap', cur, hv, hb, hg, hnc, hcm, hcs, ht⟩
  · simp at h0
  · simp only [Value.slice.injEq, Option.some.injEq, Addr.mk.injEq, and_true, true_and] at hv
    obtain ⟨rfl, rfl⟩ := hv
    refine ⟨by simp [h.1], .inr ⟨g, cap, _, rfl, hb, block_setCell' hg, hnc, hcm, by simp [hcs], ?_⟩⟩
    rw [← ht]
    simp [List.take_set]
theorem own_cell {w : World} {base n size : Nat} {e : TypeId} {xs : List Value} {g cap : Nat} (h : w.ownsRow base e size (.slice (some ⟨g, 0, none⟩) n cap) n xs) {j : Nat} {u : Value} (hu : xs[j]? = some u) :
    w.cell? ⟨g, j, none⟩ = some u ∧ w.frozen? ⟨g, j, none⟩ = false := by
  have hc := h.cells (g := g) rfl j u hu
  have hadd : (⟨g, 0, none⟩ : Addr).add j = ⟨g, j, none⟩ := by unfold Addr.add; split <;> simp_all
  rw [hadd] at hc
  refine ⟨hc, ?_⟩
  rcases h.2 with ⟨h0, _⟩ | ⟨g', cap', cur, hv, hb, hg, _⟩
  · simp at h0
  · simp only [Value.slice.injEq, Option.some.injEq, Addr.mk.injEq, and_true, true_and] at hv
    obtain ⟨rfl, rfl⟩ := hv
    exact (block_cell' hg j).2
theorem own_slice {w : World} {base n size : Nat} {e : TypeId} {v : Value} {xs : List Value} (h : w.ownsRow base e size v n xs) : ∃ ad m cap, v = .slice ad m cap := by
  rcases h.2 with ⟨h0, _⟩ | ⟨g', cap', cur, hv, _⟩
  · exact ⟨_, _, _, h0⟩
  · exact ⟨_, _, _, hv⟩
/-- the cells of some runs. -/
def rcells (o : List (Nat × Nat)) : List Value := o.flatMap fun r => [.int .u8 (r.1 : Int), .int .u8 (r.2 : Int)]
theorem rcells_len : ∀ o : List (Nat × Nat), (rcells o).length = o.length * 2
  | [] => rfl
  | r :: o => by have := rcells_len o; simp only [rcells, List.flatMap_cons, List.length_append, List.length_cons, List.length_nil] at this ⊢; omega
theorem rcells_snoc (o : List (Nat × Nat)) (r : Nat × Nat) : rcells (o ++ [r]) = rcells o ++ [.int .u8 (r.1 : Int), .int .u8 (r.2 : Int)] := by simp [rcells]
theorem rcells_last (o : List (Nat × Nat)) (p q : Nat) : (rcells (o ++ [(p, q)]))[o.length * 2 + 1]? = some (.int .u8 (q : Int)) := by
  rw [rcells_snoc, ← rcells_len, List.getElem?_append_right (by omega)]
  simp
theorem rcells_set (o : List (Nat × Nat)) (p q b : Nat) : (rcells (o ++ [(p, q)])).set (o.length * 2 + 1) (.int .u8 (b : Int)) = rcells (o ++ [(p, b)]) := by
  rw [rcells_snoc, rcells_snoc, ← rcells_len, List.set_append_right _ _ (by omega)]
  simp
theorem rcells_one (o : List (Nat × Nat)) : ∀ u ∈ rcells o, u.oneCell' = true := by
  intro u hu
  obtain ⟨r, _, hr⟩ := List.mem_flatMap.1 hu
  simp at hr
  rcases hr with rfl | rfl <;> rfl
theorem runsOf_len (l : List Nat) : (runsOf l).length ≤ l.length := by
  suffices h : ∀ l o, (List.foldl runStep o l).length ≤ o.length + l.length by simpa [runsOf] using h l []
  intro l
  induction l with
  | nil => intro o; simp
  | cons b l ih =>
    intro o
    have h1 := ih (runStep o b)
    have h2 : (runStep o b).length ≤ o.length + 1 := by
      rcases List.eq_nil_or_concat o with rfl | ⟨o', ⟨p, q⟩, rfl⟩
      · simp [runStep_nil]
      · rw [List.concat_eq_append]
        by_cases h : q + 1 = b
        · rw [runStep_join _ _ _ _ h]; simp
        · rw [runStep_new _ _ _ _ h]; simp
    simp only [List.foldl_cons, List.length_cons]
    omega
theorem runsOf_mem (l : List Nat) : ∀ r ∈ runsOf l, r.1 ∈ l ∧ r.2 ∈ l := by
  suffices h : ∀ (l : List Nat) (o : List (Nat × Nat)) (m : List Nat), (∀ r ∈ o, r.1 ∈ m ∧ r.2 ∈ m) → ∀ r ∈ List.foldl runStep o l, r.1 ∈ m ++ l ∧ r.2 ∈ m ++ l by
    simpa [runsOf] using h l [] [] (by simp)
  intro l
  induction l with
  | nil => intro o m h r hr; simpa using h r hr
  | cons b l ih =>
    intro o m h
    have := ih (runStep o b) (m ++ [b]) (fun r hr => ?_)
    · simpa using this
    · rcases List.eq_nil_or_concat o with rfl | ⟨o', ⟨p, q⟩, rfl⟩
      · simp [runStep_nil] at hr; subst hr; simp
      · rw [List.concat_eq_append] at h hr
        by_cases he : q + 1 = b
        · rw [runStep_join _ _ _ _ he] at hr
          rcases List.mem_append.1 hr with hr | hr
          · have := h r (by simp [hr]); exact ⟨by simp [this.1], by simp [this.2]⟩
          · simp at hr; subst hr; have := h (p, q) (by simp); exact ⟨List.mem_append.2 (.inl this.1), by simp⟩
        · rw [runStep_new _ _ _ _ he] at hr
          rcases List.mem_append.1 hr with hr | hr
          · have := h r hr; exact ⟨by simp [this.1], by simp [this.2]⟩
          · simp at hr; subst hr; simp
theorem Tab.pos {w : World} (h : Tab w) : 0 < w.heap.size := World.block_lt_of_cell? _ _ (h 0 (by decide))
theorem Tab.below {n : Nat} {w w' : World} (h : Tab w) (hn : 0 < n) (hb : Below n w w') : Tab w' := fun j hj => (hb.cell (p := ⟨0, j, none⟩) hn).trans (h j hj)
theorem Tryd.info_run : (Tryd.prog.info? 33).map (fun i => (i.zero, i.size, i.bytes)) = some (some (.agg #[.int .u8 0, .int .u8 0]), 2, 2) := by kernel_rfl

set_option maxRecDepth 100000 in
set_option maxHeartbeats 2000000 in
theorem class_Runs (w : World) (s : Nat → Bool) (hT : Tab w) :
    Calls Tryd.prog 17 #[clv s] w fun e W' => ∃ v, e = .returned v ∧ W'.ownsRow w.heap.size 33 2 v (runsOf (els s 256)).length (rcells (runsOf (els s 256))) ∧ Below w.heap.size w W' := by
  have hpos := hT.pos
  obtain ⟨i0, hi, hz0, hz1, hz2⟩ := info_parts Tryd.info_run
  unfold clv clc
  refine (callsIn_wide (n := 3)).1 ?_
  refine callsIn_of_wp_marks Tryd.func17 rfl trivial ?_ rfl
  simp only [Tryd.ntmps17, List.size_toArray, List.length_cons, List.length_nil, Nat.reduceAdd, Nat.reduceSub, Array.replicate_succ, Array.replicate_zero, List.push_toArray, List.append_toArray, List.nil_append, List.cons_append]
  gi_wp2_with (refine ⟨trivial, ?_⟩; gi_at_call 31; refine (all_in _ _ _).mono ?_; rintro e w' ⟨rfl, rfl⟩)
  have bO := Boxed.new (w.alloc (.cells (clc s) 24)) 26 (.slice none 0 0)
  rw [World.size_alloc] at bO
  have bS := World.alloc_heap_new ((w.alloc (.cells (clc s) 24)).alloc (.cells #[.slice none 0 0] 26)) (.cells (clc s) 46)
  simp only [World.size_alloc] at bS
  have bP := Boxed.new (((w.alloc (.cells (clc s) 24)).alloc (.cells #[.slice none 0 0] 26)).alloc (.cells (clc s) 46)) 51 (.pointer (some ⟨w.heap.size + 1 + 1, 0, none⟩))
  simp only [World.size_alloc] at bP
  have bO := (bO.alloc (.cells (clc s) 46)).alloc (.cells #[.pointer (some ⟨w.heap.size + 1 + 1, 0, none⟩)] 51)
  have bS := (Below.heap_alloc _ (.cells #[.pointer (some ⟨w.heap.size + 1 + 1, 0, none⟩)] 51) _ (lt_of_block bS)).trans bS
  have hB0 := ((((Below.refl w.heap.size w).alloc (Nat.le_refl _) (.cells (clc s) 24)).alloc (by simp) (.cells #[.slice none 0 0] 26)).alloc (by simp; omega) (.cells (clc s) 46)).alloc (by simp; omega) (.cells #[.pointer (some ⟨w.heap.size + 1 + 1, 0, none⟩)] 51)
  have hT0 := hT.below hpos hB0
  unfold clc at bO bS bP hB0 hT0
  obtain ⟨W0, hW0⟩ : ∃ W0, ((((w.alloc (.cells #[.int .u64 (word s 0), .int .u64 (word s 1), .int .u64 (word s 2), .int .u64 (word s 3)] 24)).alloc (.cells #[.slice none 0 0] 26)).alloc (.cells #[.int .u64 (word s 0), .int .u64 (word s 1), .int .u64 (word s 2), .int .u64 (word s 3)] 46)).alloc (.cells #[.pointer (some ⟨w.heap.size + 1 + 1, 0, none⟩)] 51)) = W0 := ⟨_, rfl⟩
  have hsz : W0.heap.size = w.heap.size + 4 := by rw [← hW0]; simp
  rw [hW0] at bO bS bP hB0 hT0 ⊢
  clear hW0
  refine wpIn_rangeFunc_ownG rfl (by omega) (gf := 33) (lb := #[.pointer (some ⟨w.heap.size + 1 + 1 + 1, 0, none⟩)]) rfl trivial (enters_of Tryd.func33 (by kernel_rfl) rfl)
    (all_stops _ (by omega) (w.heap.size + 1 + 1 + 1) (w.heap.size + 1 + 1) w.heap.size s hpos (by omega) W0 (by omega) bP.cell bS hT0) KpS.trans
    (fun W l o o' hl ho hc hw => ⟨belowK_b (w := W0) (by omega) W l o o' hl ho hc hw, fun x hx => (World.putObj_heap_other (by omega)).trans hx⟩) (Below.refl _ _) (fun _ => rfl)
    (fun pre W => ((∃ v, Boxed W (w.heap.size + 1) 26 v ∧ W.ownsRow w.heap.size 33 2 v (runsOf (vals pre)).length (rcells (runsOf (vals pre))) ∧ True) ∧ W.heap[w.heap.size + 1 + 1]? = some (.cells (clc s) 46 (0, 0))) ∧ Below w.heap.size w W)
    (fun _ _ _ => False)
    (OwnFrom.and (OwnFrom.and (Own.from (holdsRow_own w.heap.size (w.heap.size + 1) 26 33 2 (fun pre => (runsOf (vals pre)).length) (fun pre => rcells (runsOf (vals pre))) (fun _ _ => True)) _)
      (fun pre A B row hs hg hr => (hg.block _ (lt_of_block hs) (fun e => by obtain ⟨_, o, ho, hc⟩ := hr _ e.symm; rw [hs] at ho; cases ho; cases hc)).trans hs)) (ownFrom_below (Nat.le_refl _) (by omega)))
    (fun _ _ _ _ _ hs _ _ => hs)
    ⟨⟨⟨_, bO, World.ownsRow_nil _ _ _ _, trivial⟩, bS⟩, hB0⟩
    (fun x => { tmps := #[Value.agg #[.int .u64 (word s 0), .int .u64 (word s 1), .int .u64 (word s 2), .int .u64 (word s 3)], .pointer (some ⟨w.heap.size, 0, none⟩), .pointer (some ⟨w.heap.size + 1, 0, none⟩), .pointer (some ⟨w.heap.size + 1 + 1, 0, none⟩), .int .u8 (x.val : Int), undef, Value.agg #[.int .u64 (word s 0), .int .u64 (word s 1), .int .u64 (word s 2), .int .u64 (word s 3)], .func (.func 33) #[] #[.pointer (some ⟨w.heap.size + 1 + 1 + 1, 0, none⟩)], .int .u8 (x.val : Int), undef, undef, undef, undef, undef, undef, undef, undef, undef, undef, undef, undef, undef, undef, undef, undef, undef, undef, undef, undef, undef, undef, undef, undef, undef, undef, undef, undef, undef, undef], defers := [] }) ?assign ?body ?done ?stop
  case assign =>
    intro l x W K hK
    gi_wp2
    exact hK
  case body =>
    rintro l pre x W ⟨⟨⟨v, hv, hrow, -⟩, hS⟩, hB⟩ hlen
    have hc := hv.cell
    have hf := hv.frozen
    have hx := x.isLt
    have hstep : runsOf (vals (pre ++ [x])) = runStep (runsOf (vals pre)) x.val := by rw [vals_snoc, runsOf_snoc]
    have hol : (runsOf (vals pre)).length ≤ 256 := by
      have := runsOf_len (vals pre)
      rw [List.length_map] at this
      omega
    have hq : ∀ r ∈ runsOf (vals pre), r.2 < 256 := fun r hr => by
      have := (runsOf_mem (vals pre) r hr).2
      obtain ⟨y, _, hy⟩ := List.mem_map.1 this
      rw [← hy]; exact y.isLt
    generalize runsOf (vals pre) = o at hstep hol hrow hq
    rcases List.eq_nil_or_concat o with rfl | ⟨o', ⟨p, q⟩, rfl⟩
    · rw [runStep_nil] at hstep
      have hvv : ∃ ad cap, v = .slice ad 0 cap := by
        rcases hrow.2 with ⟨h0, _⟩ | ⟨g', cap', cur, hv, _⟩
        · exact ⟨_, _, h0⟩
        · exact ⟨_, _, hv⟩
      obtain ⟨ad, cap, rfl⟩ := hvv
      gi_wp2_with (gi_at_builtin; refine wpListIn_append_own _ rfl _ _ 26 rfl w.heap.size 33 i0 _ 2 2 Tryd.underlying26 hi hz0 hz1 hz2 rfl (by decide) _ _ _ rfl (hrow.alloc _) ⟨W.heap.size, 0, none⟩ 1 1 [.int .u8 (x.val : Int), .int .u8 (x.val : Int)] rfl rfl (cell_two_new _ _ _ _) (by simp [Value.oneCell']) (by unfold maxLen; omega) (by omega) (by have := hB.size; simp; omega) ?_; intro v' w1 hown' hgrow _; obtain ⟨g', cap', rfl⟩ := ownsRow_succ hown'; obtain ⟨hv1, hv2, hr2, hk2, hb2⟩ := hv.appended (by decide) hrow hB.size (Nat.le_succ _) hown' hgrow; have hc1 := hv1.cell; have hf1 := hv1.frozen; have hS1 := block_grown hS (by decide) hrow hgrow)
      have hS2 : (w1.setCell ⟨w.heap.size + 1, 0, none⟩ (.slice (some ⟨g', 0, none⟩) (0 + 1) cap')).heap[w.heap.size + 1 + 1]? = some (.cells (clc s) 46 (0, 0)) := by
        rw [Below.heap_setCell _ _ _ _ (by simp)]; exact hS1
      exact ⟨hk2.from _, ⟨hb2, fun u hu => by rw [hS] at hu; cases hu; exact hS2⟩, ⟨⟨_, hv2, by rw [hstep]; exact hr2, trivial⟩, hS2⟩, hB.trans hb2⟩
    · rw [List.concat_eq_append] at hrow hstep hol hq
      have hq256 := hq (p, q) (by simp)
      simp only at hq256
      have hlast := rcells_last o' p q
      have hset := rcells_set o' p q x.val
      simp only [List.length_append, List.length_singleton] at hrow hol
      obtain ⟨g, cap, rfl⟩ := ownsRow_succ hrow
      obtain ⟨hcell, hfr⟩ := own_cell hrow hlast
      have hgB := hv.not_row (by decide) hrow
      have hgS := own_ne' hS (by decide) hrow
      simp only [Value.ownBlock, ne_eq, Option.some.injEq] at hgB hgS
      have hgb : w.heap.size ≤ g := by
        rcases hrow.2 with ⟨h0, _⟩ | ⟨g', cap', cur, hv, hb, _⟩
        · cases h0
        · cases hv; exact hb
      by_cases he : q + 1 = x.val
      · rw [runStep_join _ _ _ _ he] at hstep
        have heI : ((q : Int) + 1 == (x.val : Int)) = true := by simp; omega
        gi_wp2
        have hS2 : (W.setCell ⟨g, o'.length * 2 + 1, none⟩ (.int .u8 (x.val : Int))).heap[w.heap.size + 1 + 1]? = some (.cells (clc s) 46 (0, 0)) := by
          rw [Below.heap_setCell _ _ _ _ (fun e => hgS e.symm)]; exact hS
        have hr2 := own_set hrow rfl (j := o'.length * 2 + 1) (by omega) (.int .u8 (x.val : Int))
        rw [hset] at hr2
        have hv2 : Boxed (W.setCell ⟨g, o'.length * 2 + 1, none⟩ (.int .u8 (x.val : Int))) (w.heap.size + 1) 26 (.slice (some ⟨g, 0, none⟩) (o'.length + 1) cap) := by
          show (World.setCell _ _ _).heap[_]? = _
          rw [Below.heap_setCell _ _ _ _ hgB]; exact hv
        have hb2 := (Below.refl w.heap.size W).setCell (p := ⟨g, o'.length * 2 + 1, none⟩) hgb (.int .u8 (x.val : Int))
        exact ⟨(KeepsOthers.setCell _ _ _).from _, ⟨hb2, fun u hu => by rw [hS] at hu; cases hu; exact hS2⟩, ⟨⟨_, hv2, by rw [hstep]; simpa using hr2, trivial⟩, hS2⟩, hB.trans hb2⟩
      · rw [runStep_new _ _ _ _ he] at hstep
        have heI : ((q : Int) + 1 == (x.val : Int)) = false := by simp; omega
        gi_wp2_with (gi_at_builtin; refine wpListIn_append_own _ rfl _ _ 26 rfl w.heap.size 33 i0 _ 2 2 Tryd.underlying26 hi hz0 hz1 hz2 rfl (by decide) _ _ _ rfl (hrow.alloc _) ⟨W.heap.size, 0, none⟩ 1 1 [.int .u8 (x.val : Int), .int .u8 (x.val : Int)] rfl rfl (cell_two_new _ _ _ _) (by simp [Value.oneCell']) (by unfold maxLen; omega) (by omega) (by have := hB.size; simp; omega) ?_; intro v' w1 hown' hgrow _; obtain ⟨g', cap', rfl⟩ := ownsRow_succ hown'; obtain ⟨hv1, hv2, hr2, hk2, hb2⟩ := hv.appended (by decide) hrow hB.size (Nat.le_succ _) hown' hgrow; have hc1 := hv1.cell; have hf1 := hv1.frozen; have hS1 := block_grown hS (by decide) hrow hgrow)
        have hS2 : (w1.setCell ⟨w.heap.size + 1, 0, none⟩ (.slice (some ⟨g', 0, none⟩) (o'.length + 1 + 1) cap')).heap[w.heap.size + 1 + 1]? = some (.cells (clc s) 46 (0, 0)) := by
          rw [Below.heap_setCell _ _ _ _ (by simp)]; exact hS1
        exact ⟨hk2.from _, ⟨hb2, fun u hu => by rw [hS] at hu; cases hu; exact hS2⟩, ⟨⟨_, hv2, by rw [hstep, rcells_snoc _ (x.val, x.val)]; simpa using hr2, trivial⟩, hS2⟩, hB.trans hb2⟩
  case done =>
    rintro D ys W hD hys ⟨⟨⟨v, hv, hrow, -⟩, hS⟩, hB⟩ hK
    have hc := hv.cell
    have hf := hv.frozen
    rw [hys] at hrow
    obtain ⟨ad, m, cap, rfl⟩ := own_slice hrow
    gi_wp2
    have hK' := (KeepsOthers.setCell W ⟨w.heap.size + 1, 0, none⟩ (.slice ad m cap)).same D _ hK rfl
    refine ⟨by simp, .inl ⟨_, _, rfl, run_takeDeferred hK', ?_⟩⟩
    have hv2 := hv.set (.slice ad m cap)
    have hc5 := cell_kept hv2.cell (grownBy_putObj' _ D (.deferred none)) (fun r e => by cases e; exact ⟨_, hK', rfl⟩)
    have hrow2 := ownsRow_putObj (hrow.kept (grownBy_setCell' W (w.heap.size + 1) (.slice ad m cap)) (.inr (hv.not_row (by decide) hrow).symm)) (.deferred none) hK' rfl
    refine ⟨.slice ad m cap, ?_, _, rfl, hrow2, (hB.setCell (p := ⟨w.heap.size + 1, 0, none⟩) (by simp) _).trans (belowK_b (w := w) (Nat.le_refl _) _ D _ _ (by omega) hK' rfl rfl)⟩
    simp [results, Tryd.f17, go_sem, hc5]
  case stop =>
    rintro D c pre W _ _ h _
    exact h.elim
end Go.Proofs.YtchjlgmnfepedaaDoor
