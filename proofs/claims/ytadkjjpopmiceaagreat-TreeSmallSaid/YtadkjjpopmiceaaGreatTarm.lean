import Derived.Test.YtadkjjpopmiceaaGreatTrLm
import Derived.Deep.RegionWith
import Derived.Lib.SliceRun
namespace Go.Proofs.YtadkjjpopmiceaaGreat
open Go.RowKit Go.Lib

/-- an arena in memory: its block, its slice, the twigs, the room, the peak. -/
def TAr (B : Nat) (w : World) (x : Nat) (v : Value) (l : List Tw) (most peak : Nat) : Prop :=
  w.heap[x]? = some (.cells #[v, .int .i64 most, .int .i64 peak, .bool true] 137 (0, 0)) ∧ w.ownsRow B 45 5 v l.length (tvs l) ∧ l.length ≤ most ∧ most ≤ 9223372036854775807 ∧ peak ≤ most ∧ l.length ≤ peak
theorem TAr.keeps {B : Nat} {w w' : World} {x : Nat} {v : Value} {l : List Tw} {most peak : Nat} {S : Nat → Prop} (h : TAr B w x v l most peak) (hk : Keeps S w w') (hx : ¬ S x) (hv : ∀ k, v.ownBlock = some k → ¬ S k) : TAr B w' x v l most peak :=
  ⟨hk.obj h.1 hx, hk.row h.2.1 hv, h.2.2⟩
theorem TAr.later {B : Nat} {w w' : World} {x : Nat} {v : Value} {l : List Tw} {most peak : Nat} (h : TAr B w x v l most peak) (hk : Below w.heap.size w w') : TAr B w' x v l most peak :=
  h.keeps (Keeps.ofBelow hk) (by have := lt_of_block h.1; omega) (fun k hk' => by have := h.2.1.lt k hk'; omega)
theorem TAr.cells {B : Nat} {w : World} {x : Nat} {v : Value} {l : List Tw} {most peak : Nat} (h : TAr B w x v l most peak) :
    w.cell? ⟨x, 0, none⟩ = some v ∧ w.cell? ⟨x, 1, none⟩ = some (.int .i64 most) ∧ w.cell? ⟨x, 2, none⟩ = some (.int .i64 peak) ∧ w.cell? ⟨x, 3, none⟩ = some (.bool true) ∧ (∀ k, w.frozen? ⟨x, k, none⟩ = false) := by
  have hb := block_cell' h.1
  exact ⟨(hb 0).1, (hb 1).1, (hb 2).1, (hb 3).1, fun k => (hb k).2⟩
theorem TAr.shape {B : Nat} {w : World} {x : Nat} {v : Value} {l : List Tw} {most peak : Nat} (h : TAr B w x v l most peak) : ∃ ao cap, v = .slice ao l.length cap ∧ l.length ≤ cap ∧ cap ≤ 9223372036854775807 ∧ (ao = none → cap = 0 ∧ l = []) ∧ (∀ a, ao = some a → ∃ g, a = ⟨g, 0, none⟩ ∧ v.ownBlock = some g) := by
  rcases h.2.1.2 with ⟨rfl, h0⟩ | ⟨g, cap, cur, rfl, _, _, hc, hm, _⟩
  · exact ⟨none, 0, by rw [h0], by omega, by omega, fun _ => ⟨rfl, List.eq_nil_of_length_eq_zero h0⟩, (fun a h => by cases h)⟩
  · exact ⟨_, cap, rfl, hc, by unfold maxLen at hm; omega, (fun h => by cases h), fun a ha => ⟨g, by simp at ha; exact ha.symm, rfl⟩⟩
set_option maxHeartbeats 400000 in
theorem arThere {B : Nat} {x : Nat} {v : Value} {l : List Tw} {most peak : Nat} (w : World) (h : TAr B w x v l most peak) :
    Calls Tryz.prog 107 #[.pointer (some ⟨x, 0, none⟩)] w fun e w' => e = .returned (.bool true) ∧ w = w' := by
  obtain ⟨h0, h1, h2, h3, h4⟩ := h.cells
  clear h0 h1 h2 h4 h
  go_enter Tryz.func107, Tryz.ntmps107
  go_wp2
  go_ret
  exact ⟨rfl, rfl⟩
set_option maxHeartbeats 400000 in
theorem arLen {B : Nat} {x : Nat} {v : Value} {l : List Tw} {most peak : Nat} (w : World) (h : TAr B w x v l most peak) :
    Calls Tryz.prog 77 #[.pointer (some ⟨x, 0, none⟩)] w fun e w' => e = .returned (.int .i64 l.length) ∧ w = w' := by
  have H := Lib.hid h
  obtain ⟨h0, h1, h2, h3, h4⟩ := h.cells
  obtain ⟨ao, cap, rfl, hl, hm, hnil, hao⟩ := h.shape
  clear h1 h2 h3 h4 hao hnil h
  go_enter Tryz.func77, Tryz.ntmps77
  go_wp2_with (go_at_call 107; refine (arThere _ H.out).mono ?_; rintro e w' ⟨rfl, rfl⟩)
  go_ret
  exact ⟨rfl, rfl⟩
set_option maxHeartbeats 400000 in
theorem arPeak {B : Nat} {x : Nat} {v : Value} {l : List Tw} {most peak : Nat} (w : World) (h : TAr B w x v l most peak) :
    Calls Tryz.prog 105 #[.pointer (some ⟨x, 0, none⟩)] w fun e w' => e = .returned (.int .i64 peak) ∧ w = w' := by
  have H := Lib.hid h
  obtain ⟨h0, h1, h2, h3, h4⟩ := h.cells
  clear h0 h1 h3 h4 h
  go_enter Tryz.func105, Tryz.ntmps105
  go_wp2_with (go_at_call 107; refine (arThere _ H.out).mono ?_; rintro e w' ⟨rfl, rfl⟩)
  go_ret
  exact ⟨rfl, rfl⟩
set_option maxHeartbeats 400000 in
theorem arLeft {B : Nat} {x : Nat} {v : Value} {l : List Tw} {most peak : Nat} (w : World) (h : TAr B w x v l most peak) :
    Calls Tryz.prog 108 #[.pointer (some ⟨x, 0, none⟩)] w fun e w' => e = .returned (.int .i64 ((most : Int) - l.length)) ∧ ∃ m, w' = w.drewN m := by
  have H := Lib.hid h
  obtain ⟨h0, h1, h2, h3, h4⟩ := h.cells
  obtain ⟨ao, cap, rfl, hl, hm, hnil, hao⟩ := h.shape
  have hlm := h.2.2.1
  have hmm := h.2.2.2.1
  clear h2 h3 h4 hao hnil h
  have hsub : IntKind.i64.wrap ((most : Int) - l.length) = (most : Int) - l.length := IntWalk.i64_in _ (by omega)
  go_enter Tryz.func108, Tryz.ntmps108
  go_wp2_with (go_at_call 107; refine (arThere _ H.out).mono ?_; rintro e w' ⟨rfl, rfl⟩)
  go_quiet (fail)
  go_wp2
  go_ret
  exact ⟨rfl, _, rfl⟩
set_option maxHeartbeats 400000 in
theorem arNew (k : Nat) (w : World) (hk : k ≤ 9223372036854775807) : Calls Tryz.prog 72 #[.int .i64 k] w fun e w' => e = .returned (.pointer (some ⟨w.heap.size, 0, none⟩)) ∧ TAr w.heap.size w' w.heap.size (.slice none 0 0) [] k 0 ∧ Below w.heap.size w w' := by
  go_enter Tryz.func72, Tryz.ntmps72
  go_wp2
  go_ret
  refine ⟨rfl, ⟨heap_alloc_new w _, (World.ownsRow_nil _ _ _ _), by simp, hk, by omega, by simp⟩, (Below.refl _ _).alloc (Nat.le_refl _) _⟩
/-- what an append leaves of an arena. -/
def TAdd (B : Nat) (w : World) (x : Nat) (v : Value) (l : List Tw) (most peak : Nat) (w' : World) : Prop :=
  ∃ v', w'.heap[x]? = some (.cells #[v', .int .i64 most, .int .i64 peak, .bool true] 137 (0, 0)) ∧ w'.ownsRow B 45 5 v' l.length (tvs l) ∧ Keeps (fun k => k = x ∨ v.ownBlock = some k) w w' ∧ (∀ k, v'.ownBlock = some k → v.ownBlock = some k ∨ w.heap.size ≤ k)
set_option maxHeartbeats 1000000 in
theorem arAdd {B : Nat} {x : Nat} {v vl : Value} {xs ys : List Tw} {most peak : Nat} (w : World) (h : TAr B w x v xs most peak) (hy : TwAt w vl ys) (hl : xs.length + ys.length ≤ 1000000) (hB : B ≤ w.heap.size) :
    Calls Tryz.prog 109 #[.pointer (some ⟨x, 0, none⟩), vl] w fun e w' => e = .returned (.int .i64 xs.length) ∧ TAdd B w x v (xs ++ ys) most peak w' := by
  obtain ⟨h0, h1, h2, h3, h4⟩ := h.cells
  have hf := h4 0
  have Hown := Lib.hid h.2.1
  have Hoc := Lib.hid (own_ne' h.1 (by decide) h.2.1)
  have Hblk := Lib.hid h.1
  have hshape := h.shape
  have hxl := lt_of_block h.1
  obtain ⟨ao, cap, rfl⟩ := hy.val
  obtain ⟨-, hlc, hcm, hnil, hnews⟩ := rows_news twc_len (by omega) hy
  have Hnil := Lib.hid hnil
  have Hnews := Lib.hid hnews
  have HB := Lib.hid hB
  obtain ⟨ao', cap', hv, hl', hm', hnil', hao'⟩ := hshape
  obtain ⟨n, hn⟩ : ∃ n, n = xs.length := ⟨_, rfl⟩
  obtain ⟨m, hm⟩ : ∃ m, m = ys.length := ⟨_, rfl⟩
  have HN := Lib.hid hn
  have HM := Lib.hid hm
  subst hv
  rw [← hn] at Hown h0 hl' hl Hoc Hblk ⊢
  rw [← hm] at Hnil hl ⊢
  clear h1 h2 h3 h4 hnil hnews hao' hnil' h hy hB hn hm
  obtain ⟨i0, hi, hz0, hz1, hz2⟩ := info_parts Tryz.infoTwig
  go_enter Tryz.func109, Tryz.ntmps109
  go_wp2_with (at_builtin; refine wpList_append_mine _ rfl (.tmp 15) (.tmp 16) 22 rfl B 45 i0 _ 5 40 Tryz.underlying22 hi hz0 hz1 hz2 rfl (by decide) _ n (tvs xs) rfl Hown.out ao m cap (tvs ys) rfl (by rw [flat_len twc_len, HM.out]) Hnil.out Hnews.out (flat_one twc_one ys) (by unfold maxLen; omega) (by omega) HB.out ?_; intro v2 w1 hown1 hg1 hfr1; have hb1 := (Keeps.refl (fun k => k = x ∨ (Value.slice ao' n cap').ownBlock = some k) w).grown hg1 (fun k hk => Or.inr hk); have hblk1 : w1.heap[x]? = some (.cells #[.slice ao' n cap', .int .i64 most, .int .i64 peak, .bool true] 137 (0, 0)) := (hg1.block x hxl (fun e => Hoc.out e.symm)).trans Hblk.out; obtain ⟨ao2, cap2, rfl⟩ := own_val hown1; have hcx := (block_cell' hblk1 0).1; have hfx := (block_cell' hblk1 0).2; have Hown1 := Lib.hid hown1; have Hfr1 := Lib.hid hfr1; have Hblk1 := Lib.hid hblk1; clear hown1 hfr1 hblk1 hg1)
  go_ret
  refine ⟨rfl, _, block_setCell' Hblk1.out, ?_, hb1.setCell (Or.inl rfl) _, Hfr1.out⟩
  have hne : (Value.slice ao2 (n + m) cap2).ownBlock ≠ some x := own_ne' Hblk1.out (by decide) Hown1.out
  rw [List.length_append, ← HN.out, ← HM.out, tvs, List.flatMap_append]
  exact ownsRow_setCell_other Hown1.out (a := ⟨x, 0, none⟩) hne _
/-- what changes an arena may leave of it: the block of its things is the elder one, or new. -/
def TNow (B : Nat) (w : World) (x : Nat) (v : Value) (l : List Tw) (most peak : Nat) (w' : World) : Prop :=
  ∃ v', TAr B w' x v' l most peak ∧ Keeps (fun k => k = x ∨ v.ownBlock = some k) w w' ∧ (∀ k, v'.ownBlock = some k → v.ownBlock = some k ∨ w.heap.size ≤ k)
theorem TNow.self {B : Nat} {w : World} {x : Nat} {v : Value} {l : List Tw} {most peak : Nat} (h : TAr B w x v l most peak) (n : Nat) : TNow B w x v l most peak (w.drewN n) :=
  ⟨v, h, (Keeps.refl _ _).drewN n, fun _ hk => .inl hk⟩
set_option maxHeartbeats 1000000 in
theorem arPut_full {B : Nat} {x : Nat} {v vl : Value} {xs ys : List Tw} {most peak : Nat} (w : World) (h : TAr B w x v xs most peak) (hy : TwAt w vl ys) (hf : most < xs.length + ys.length) :
    Calls Tryz.prog 75 #[.pointer (some ⟨x, 0, none⟩), vl] w fun e w' => e = .returned (.tuple #[.int .i64 0, .int .i64 12]) ∧ ∃ n, w' = w.drewN n := by
  have H := Lib.hid h
  have hlm := h.2.2.1
  clear h
  obtain ⟨ao, cap, rfl⟩ := hy.val
  have hcm := hy.cells.2.2.1
  have hlc := hy.cells.2.1
  have hf' : (most : Int) - xs.length < ys.length := by omega
  clear hy
  unfold maxLen at hcm
  go_enter Tryz.func75, Tryz.ntmps75
  go_wp2_with (first | (go_at_call 107; refine (arThere _ H.out).mono ?_; rintro e w' ⟨rfl, rfl⟩) | (go_at_call 108; refine (arLeft _ H.out).mono ?_; rintro e w' ⟨rfl, m, rfl⟩))
  go_ret2
  exact ⟨rfl, _, rfl⟩
theorem arPut_fin {B : Nat} {x m : Nat} {v v2 : Value} {xs : List Tw} {most peak p2 : Nat} {w w1 : World} {q : Int} (hblk : w1.heap[x]? = some (.cells #[v2, .int .i64 most, .int .i64 peak, .bool true] 137 (0, 0))) (hown : w1.ownsRow B 45 5 v2 xs.length (tvs xs))
    (hk : Keeps (fun k => k = x ∨ v.ownBlock = some k) (w.drewN m) w1) (hfr : ∀ k, v2.ownBlock = some k → v.ownBlock = some k ∨ (w.drewN m).heap.size ≤ k) (hm : most ≤ 9223372036854775807) (h1 : xs.length ≤ most) (h2 : p2 ≤ most) (h3 : xs.length ≤ p2) (hq : q = (p2 : Nat)) :
    TNow B w x v xs most p2 (w1.setCell ⟨x, 2, none⟩ (.int .i64 q)).drew := by
  subst hq
  have hne : v2.ownBlock ≠ some x := own_ne' hblk (by decide) hown
  have hk' : Keeps (fun k => k = x ∨ v.ownBlock = some k) w w1 := ((Keeps.refl _ w).drewN m).trans hk
  refine ⟨v2, ⟨?_, ?_, h1, hm, h2, h3⟩, (hk'.setCell (Or.inl rfl) _).drew, hfr⟩
  · exact block_setCell' hblk
  · exact ownsRow_setCell_other hown (a := ⟨x, 2, none⟩) hne _
set_option maxRecDepth 100000 in
set_option maxHeartbeats 2000000 in
theorem arPut {B : Nat} {x : Nat} {v vl : Value} {xs ys : List Tw} {most peak : Nat} (w : World) (h : TAr B w x v xs most peak) (hy : TwAt w vl ys) (hf : xs.length + ys.length ≤ most) (hl : xs.length + ys.length ≤ 1000000) (hB : B ≤ w.heap.size) :
    Calls Tryz.prog 75 #[.pointer (some ⟨x, 0, none⟩), vl] w fun e w' => e = .returned (.tuple #[.int .i64 xs.length, .int .i64 0]) ∧ TNow B w x v (xs ++ ys) most (max peak (xs ++ ys).length) w' := by
  have H := Lib.hid h
  have Hy := Lib.hid hy
  have hlm := h.2.2.1
  have hmost := h.2.2.2.1
  have hpk := h.2.2.2.2.1
  have hxp := h.2.2.2.2.2
  clear h
  obtain ⟨ao, cap, rfl⟩ := hy.val
  have hcm := hy.cells.2.2.1
  have hlc := hy.cells.2.1
  have hf' : ¬ (most : Int) - xs.length < ys.length := by omega
  clear hy
  unfold maxLen at hcm
  have HB := Lib.hid hB
  clear hB
  go_enter Tryz.func75, Tryz.ntmps75
  go_wp2_with (first | (go_at_call 107; refine (arThere _ H.out).mono ?_; rintro e w' ⟨rfl, rfl⟩) | (go_at_call 108; refine (arLeft _ H.out).mono ?_; rintro e w' ⟨rfl, m, rfl⟩) | (go_at_call 109; refine (arAdd _ (H.out.later (below_draws (Below.refl _ _) m)) (Hy.out.later (below_draws (Below.refl _ _) m)) hl HB.out).mono ?_; rintro e w1 ⟨rfl, hadd⟩))
  obtain ⟨v2, hblk, hown, hkeep, hfr⟩ := hadd
  have hbc := block_cell' hblk
  obtain ⟨ao2, cap2, rfl⟩ := own_val hown
  have hc0 := (hbc 0).1
  have hc2 := (hbc 2).1
  have hf2 := (hbc 2).2
  have Hown := Lib.hid hown
  have Hblk := Lib.hid hblk
  have Hfr := Lib.hid hfr
  have Hk := Lib.hid hkeep
  clear hown hblk hfr hkeep hbc
  simp only [List.length_append] at hc0
  have hlen2 : (xs ++ ys).length = xs.length + ys.length := List.length_append
  have Hlen := Lib.hid hlen2
  clear hlen2
  go_still_tail 14, (by kernel_rfl)
  go_wp2
  all_goals
    go_ret2
    exact ⟨rfl, arPut_fin Hblk.out Hown.out Hk.out Hfr.out hmost (by rw [Hlen.out]; omega) (by have := Hlen.out; omega) (by have := Hlen.out; omega) (by have := Hlen.out; omega)⟩
end Go.Proofs.YtadkjjpopmiceaaGreat
