/-
  Package class: Next, From.
-/
import Derived.Test.YtchjlgmnfepedaaDoorAwake
import Derived.Test.YtchjlgmnfepedaaDoorMore
namespace Go.Proofs.YtchjlgmnfepedaaDoor
open Go.RowKit Go.Lib Go.Shelf
attribute [local go_sem] Oper.semAt_some

theorem els_up (s : Nat → Bool) (n : Nat) : (els s n).Pairwise (· < ·) := List.Pairwise.filter _ List.pairwise_lt_range
theorem next_stop {s : Nat → Bool} {ini : List Nat} {x : Nat} {n : Int} (hp : ini ++ [x] <+: els s 256) (hi : ∀ y ∈ ini, (y : Int) < n) : s x = true ∧ ∀ y : Nat, y < x → n ≤ (y : Int) → s y = false := by
  obtain ⟨r, hr⟩ := hp
  have hx : x ∈ els s 256 := by rw [← hr]; simp
  have hx' := mem_els.1 hx
  refine ⟨hx'.2, fun y hy hn => ?_⟩
  cases hs : s y with
  | false => rfl
  | true =>
    have hm : y ∈ els s 256 := mem_els.2 ⟨by omega, hs⟩
    have hu := els_up s 256
    rw [← hr, List.append_assoc] at hm hu
    rcases List.mem_append.1 hm with hm | hm
    · have := hi y hm; omega
    · have h2 := (List.pairwise_append.1 hu).2.1
      simp only [List.singleton_append, List.pairwise_cons] at h2
      rcases List.mem_cons.1 hm with rfl | hm
      · omega
      · have := h2.1 y hm; omega

theorem boxed_kept {W W' : World} {row : Option Nat} {B : Nat} {t : TypeId} {v : Value} (h : Boxed W B t v) (hg : W.grownBy W' row) (hr : ∀ r, row = some r → ∃ o : Obj, W.heap[r]? = some o ∧ o.isCells = false) : Boxed W' B t v := boxed_own B t (fun _ : Unit => v) () W W' row h hg hr
/-- what Next tells. -/
def NextOk (s : Nat → Bool) (n : Int) (x : Nat) (is : Bool) : Prop :=
  (is = true ∧ x < 256 ∧ s x = true ∧ n ≤ (x : Int) ∧ ∀ y : Nat, y < x → n ≤ (y : Int) → s y = false) ∨ (is = false ∧ x = 0 ∧ ∀ y : Nat, y < 256 → n ≤ (y : Int) → s y = false)

set_option maxRecDepth 100000 in
set_option maxHeartbeats 2000000 in
theorem class_Next (w : World) (s : Nat → Bool) (n : Int) (hT : Tab w) :
    Calls Tryd.prog 19 #[clv s, .int .i64 n] w fun e W' => ∃ x is, e = .returned (.tuple #[.int .u8 ((x : Nat) : Int), .bool is]) ∧ NextOk s n x is ∧ Below w.heap.size w W' := by
  have hpos := hT.pos
  have C : Obj := .cells (clc s) 24
  unfold clv
  have bF := Boxed.new (w.alloc (.cells (clc s) 24)) 3 (.int .i64 n)
  have bX := Boxed.new ((w.alloc (.cells (clc s) 24)).alloc (.cells #[.int .i64 n] 3)) 5 (.int .u8 0)
  have bI := Boxed.new (((w.alloc (.cells (clc s) 24)).alloc (.cells #[.int .i64 n] 3)).alloc (.cells #[.int .u8 0] 5)) 4 (.bool false)
  have bS := World.alloc_heap_new ((((w.alloc (.cells (clc s) 24)).alloc (.cells #[.int .i64 n] 3)).alloc (.cells #[.int .u8 0] 5)).alloc (.cells #[.bool false] 4)) (.cells (clc s) 46)
  have bP := Boxed.new (((((w.alloc (.cells (clc s) 24)).alloc (.cells #[.int .i64 n] 3)).alloc (.cells #[.int .u8 0] 5)).alloc (.cells #[.bool false] 4)).alloc (.cells (clc s) 46)) 51 (.pointer (some ⟨w.heap.size + 1 + 1 + 1 + 1, 0, none⟩))
  simp only [World.size_alloc] at bF bX bI bS bP
  have bF := (((bF.alloc (.cells #[.int .u8 0] 5)).alloc (.cells #[.bool false] 4)).alloc (.cells (clc s) 46)).alloc (.cells #[.pointer (some ⟨w.heap.size + 1 + 1 + 1 + 1, 0, none⟩)] 51)
  have bX := ((bX.alloc (.cells #[.bool false] 4)).alloc (.cells (clc s) 46)).alloc (.cells #[.pointer (some ⟨w.heap.size + 1 + 1 + 1 + 1, 0, none⟩)] 51)
  have bI := (bI.alloc (.cells (clc s) 46)).alloc (.cells #[.pointer (some ⟨w.heap.size + 1 + 1 + 1 + 1, 0, none⟩)] 51)
  have bS := (Below.heap_alloc _ (.cells #[.pointer (some ⟨w.heap.size + 1 + 1 + 1 + 1, 0, none⟩)] 51) _ (lt_of_block bS)).trans bS
  have hB0 := ((((((Below.refl w.heap.size w).alloc (Nat.le_refl _) (.cells (clc s) 24)).alloc (by simp) (.cells #[.int .i64 n] 3)).alloc (by simp; omega) (.cells #[.int .u8 0] 5)).alloc (by simp; omega) (.cells #[.bool false] 4)).alloc (by simp; omega) (.cells (clc s) 46)).alloc (by simp; omega) (.cells #[.pointer (some ⟨w.heap.size + 1 + 1 + 1 + 1, 0, none⟩)] 51)
  have hT0 := hT.below hpos hB0
  clear C
  unfold clc at bF bX bI bS bP hB0 hT0 ⊢
  refine (callsIn_wide (n := 3)).1 ?_
  refine callsIn_of_wp_marks Tryd.func19 rfl trivial ?_ rfl
  simp only [Tryd.ntmps19, List.size_toArray, List.length_cons, List.length_nil, Nat.reduceAdd, Nat.reduceSub, Array.replicate_succ, Array.replicate_zero, List.push_toArray, List.append_toArray, List.nil_append, List.cons_append]
  gi_wp2_with (refine ⟨trivial, ?_⟩; gi_at_call 31; refine (all_in _ _ _).mono ?_; rintro e w' ⟨rfl, rfl⟩)
  obtain ⟨W0, hW0⟩ : ∃ W0, ((((((w.alloc (.cells #[.int .u64 (word s 0), .int .u64 (word s 1), .int .u64 (word s 2), .int .u64 (word s 3)] 24)).alloc (.cells #[.int .i64 n] 3)).alloc (.cells #[.int .u8 0] 5)).alloc (.cells #[.bool false] 4)).alloc (.cells #[.int .u64 (word s 0), .int .u64 (word s 1), .int .u64 (word s 2), .int .u64 (word s 3)] 46)).alloc (.cells #[.pointer (some ⟨w.heap.size + 1 + 1 + 1 + 1, 0, none⟩)] 51)) = W0 := ⟨_, rfl⟩
  have hsz : W0.heap.size = w.heap.size + 6 := by rw [← hW0]; simp
  rw [hW0] at bF bX bI bS bP hB0 hT0 ⊢
  clear hW0
  refine wpIn_rangeFunc_ownG rfl (by omega) (gf := 33) (lb := #[.pointer (some ⟨w.heap.size + 1 + 1 + 1 + 1 + 1, 0, none⟩)]) rfl trivial (enters_of Tryd.func33 (by kernel_rfl) rfl)
    (all_stops _ (by omega) (w.heap.size + 1 + 1 + 1 + 1 + 1) (w.heap.size + 1 + 1 + 1 + 1) w.heap.size s hpos (by omega) W0 (by omega) bP.cell bS hT0) KpS.trans
    (fun W l o o' hl ho hc hw => ⟨belowK_b (w := W0) (by omega) W l o o' hl ho hc hw, fun x hx => (World.putObj_heap_other (by omega)).trans hx⟩) (Below.refl _ _) (fun _ => rfl)
    (fun pre W => ((∀ y ∈ vals pre, (y : Int) < n) ∧ W.cell? ⟨w.heap.size + 1, 0, none⟩ = some (.int .i64 n) ∧ Boxed W (w.heap.size + 1 + 1) 5 (.int .u8 0) ∧ Boxed W (w.heap.size + 1 + 1 + 1) 4 (.bool false)) ∧ Below w.heap.size w W)
    (fun c pre W => (c = .ret ∧ ∃ ini last, pre = ini ++ [last] ∧ (∀ y ∈ vals ini, (y : Int) < n) ∧ n ≤ (last.val : Int) ∧ Boxed W (w.heap.size + 1 + 1) 5 (.int .u8 (last.val : Int)) ∧ Boxed W (w.heap.size + 1 + 1 + 1) 4 (.bool true)) ∧ Below w.heap.size w W)
    (OwnFrom.and (Own.from (fun s A B row hs hg hr => ⟨hs.1, cell_kept hs.2.1 hg hr, boxed_kept hs.2.2.1 hg hr, boxed_kept hs.2.2.2 hg hr⟩) _) (ownFrom_below (Nat.le_refl _) (by omega)))
    (fun c => OwnFrom.and (Own.from (fun s A B row hs hg hr => by obtain ⟨hc, ini, last, e1, e2, e3, e4, e5⟩ := hs; exact ⟨hc, ini, last, e1, e2, e3, boxed_kept e4 hg hr, boxed_kept e5 hg hr⟩) _) (ownFrom_below (Nat.le_refl _) (by omega)))
    ⟨⟨by simp, bF.cell, bX, bI⟩, hB0⟩
    (fun x => { tmps := #[Value.agg #[.int .u64 (word s 0), .int .u64 (word s 1), .int .u64 (word s 2), .int .u64 (word s 3)], .int .i64 n, .pointer (some ⟨w.heap.size, 0, none⟩), .pointer (some ⟨w.heap.size + 1, 0, none⟩), .pointer (some ⟨w.heap.size + 1 + 1, 0, none⟩), .pointer (some ⟨w.heap.size + 1 + 1 + 1, 0, none⟩), .pointer (some ⟨w.heap.size + 1 + 1 + 1 + 1, 0, none⟩), .int .u8 (x.val : Int), Value.agg #[.int .u64 (word s 0), .int .u64 (word s 1), .int .u64 (word s 2), .int .u64 (word s 3)], .func (.func 33) #[] #[.pointer (some ⟨w.heap.size + 1 + 1 + 1 + 1 + 1, 0, none⟩)], .int .u8 (x.val : Int), undef, undef, undef, undef, undef], defers := [] }) ?assign ?body ?done ?stop
  case assign =>
    intro l x W K hK
    gi_wp2
    exact hK
  case body =>
    rintro l pre x W ⟨⟨hp, hcf, hbx, hbi⟩, hB⟩ _
    have hx := x.isLt
    have hcx := hbx.cell
    have hfx := hbx.frozen
    have hci := hbi.cell
    have hfi := hbi.frozen
    gi_wp2
    · have hxn : n ≤ (x.val : Int) := by assumption
      have h2 := hbx.set (.int .u8 (x.val : Int))
      have hbi2 : Boxed (W.setCell ⟨w.heap.size + 1 + 1, 0, none⟩ (.int .u8 (x.val : Int))) (w.heap.size + 1 + 1 + 1) 4 (.bool false) := by
        show (World.setCell _ _ _).heap[_]? = _
        rw [Below.heap_setCell _ _ _ _ (by simp)]; exact hbi
      have h3 := hbi2.set (.bool true)
      have h2' : Boxed ((W.setCell ⟨w.heap.size + 1 + 1, 0, none⟩ (.int .u8 (x.val : Int))).setCell ⟨w.heap.size + 1 + 1 + 1, 0, none⟩ (.bool true)) (w.heap.size + 1 + 1) 5 (.int .u8 (x.val : Int)) := by
        show (World.setCell _ _ _).heap[_]? = _
        rw [Below.heap_setCell _ _ _ _ (by simp)]; exact h2
      exact ⟨((KeepsOthers.setCell _ _ _).trans (KeepsOthers.setCell _ _ _)).from _, ⟨rfl, pre, x, rfl, hp, hxn, h2', h3⟩, (hB.setCell (p := ⟨w.heap.size + 1 + 1, 0, none⟩) (by simp; omega) _).setCell (p := ⟨w.heap.size + 1 + 1 + 1, 0, none⟩) (by simp; omega) _⟩
    · have hxn : (x.val : Int) < n := by assumption
      exact ⟨KeepsFrom.refl _ _, KpS.refl _ _ _, ⟨fun y hy => by
        rw [vals_snoc] at hy
        rcases List.mem_append.1 hy with hy | hy
        · exact hp y hy
        · simp at hy; subst hy; exact hxn, hcf, hbx, hbi⟩, hB⟩
  case done =>
    rintro D ys W hD hys ⟨⟨hp, hcf, hbx, hbi⟩, hB⟩ hK
    have hcx := hbx.cell
    have hfx := hbx.frozen
    have hci := hbi.cell
    have hfi := hbi.frozen
    gi_wp2
    have hK' := ((KeepsOthers.setCell W ⟨w.heap.size + 1 + 1, 0, none⟩ (.int .u8 0)).trans (KeepsOthers.setCell (W.setCell ⟨w.heap.size + 1 + 1, 0, none⟩ (.int .u8 0)) ⟨w.heap.size + 1 + 1 + 1, 0, none⟩ (.bool false))).same D _ hK rfl
    have h2 := hbx.set (.int .u8 0)
    have hbi2 : Boxed (W.setCell ⟨w.heap.size + 1 + 1, 0, none⟩ (.int .u8 0)) (w.heap.size + 1 + 1 + 1) 4 (.bool false) := by
      show (World.setCell _ _ _).heap[_]? = _
      rw [Below.heap_setCell _ _ _ _ (by simp)]; exact hbi
    have h3 := hbi2.set (.bool false)
    have h2' : Boxed ((W.setCell ⟨w.heap.size + 1 + 1, 0, none⟩ (.int .u8 0)).setCell ⟨w.heap.size + 1 + 1 + 1, 0, none⟩ (.bool false)) (w.heap.size + 1 + 1) 5 (.int .u8 0) := by
      show (World.setCell _ _ _).heap[_]? = _
      rw [Below.heap_setCell _ _ _ _ (by simp)]; exact h2
    refine ⟨by simp, .inl ⟨_, _, rfl, run_takeDeferred hK', ?_⟩⟩
    have hc4 := cell_kept h2'.cell (grownBy_putObj' _ D (.deferred none)) (fun r e => by cases e; exact ⟨_, hK', rfl⟩)
    have hc5 := cell_kept h3.cell (grownBy_putObj' _ D (.deferred none)) (fun r e => by cases e; exact ⟨_, hK', rfl⟩)
    refine ⟨.tuple #[.int .u8 0, .bool false], ?_, 0, false, rfl, .inr ⟨rfl, rfl, fun y hy hn => ?_⟩, ((hB.setCell (p := ⟨w.heap.size + 1 + 1, 0, none⟩) (by simp; omega) _).setCell (p := ⟨w.heap.size + 1 + 1 + 1, 0, none⟩) (by simp; omega) _).trans (belowK_b (w := w) (Nat.le_refl _) _ D _ _ (by omega) hK' rfl rfl)⟩
    · simp [results, Tryd.f19, go_sem, hc4, hc5]
    · cases hs : s y with
      | false => rfl
      | true =>
        have := hp y (by rw [hys]; exact mem_els.2 ⟨hy, hs⟩)
        omega
  case stop =>
    rintro D c pre W hD hpre ⟨⟨rfl, ini, last, rfl, hi, hln, hbx, hbi⟩, hB⟩ hK
    gi_wp2
    refine ⟨by simp, .inl ⟨_, _, rfl, run_takeDeferred hK, ?_⟩⟩
    have hc4 := cell_kept hbx.cell (grownBy_putObj' _ D (.deferred none)) (fun r e => by cases e; exact ⟨_, hK, rfl⟩)
    have hc5 := cell_kept hbi.cell (grownBy_putObj' _ D (.deferred none)) (fun r e => by cases e; exact ⟨_, hK, rfl⟩)
    rw [vals_snoc] at hpre
    have hst := next_stop hpre hi
    refine ⟨.tuple #[.int .u8 (last.val : Int), .bool true], ?_, last.val, true, rfl, .inl ⟨rfl, last.isLt, hst.1, hln, hst.2⟩, hB.trans (belowK_b (w := w) (Nat.le_refl _) W D _ _ (by omega) hK rfl rfl)⟩
    simp [results, Tryd.f19, go_sem, hc4, hc5]
end Go.Proofs.YtchjlgmnfepedaaDoor
