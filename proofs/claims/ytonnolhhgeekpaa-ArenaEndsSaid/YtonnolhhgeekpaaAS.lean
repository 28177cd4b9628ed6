/-
  Arena: what the methods of an arena do, at int and at string.
-/
import Derived.Test.YtonnolhhgeekpaaKeep
import Derived.Deep.RegionHeld
import Derived.StillTailTactics
import Derived.Deep.RegionWith
import Derived.Test.YtonnolhhgeekpaaShelf
namespace Go.Proofs.Ytonnolhhgeekpaa
open Go.RowKit Go.Lib Go.Sort

/-! ### arena.Arena[string] -/
theorem Try.infoES : (Try.prog.info? 9).map (fun i => (i.zero, i.size, i.bytes)) = some (some (.string ⟨#[]⟩), 1, 16) := by kernel_rfl

/-- an arena in memory: its block, its slice, the things, the room, the peak. -/
def SAr (B : Nat) (w : World) (x : Nat) (v : Value) (xs : List Value) (most peak : Nat) : Prop :=
  w.heap[x]? = some (.cells #[v, .int .i64 most, .int .i64 peak, .bool true] 74 (0, 0)) ∧ w.ownsRow B 9 1 v xs.length xs ∧ xs.length ≤ most ∧ most ≤ 9223372036854775807 ∧ peak ≤ most ∧ xs.length ≤ peak ∧ (∀ u ∈ xs, u.oneCell' = true)

theorem SAr.keeps {B : Nat} {w w' : World} {x : Nat} {v : Value} {xs : List Value} {most peak : Nat} {S : Nat → Prop} (h : SAr B w x v xs most peak) (hk : Keeps S w w') (hx : ¬ S x) (hv : ∀ k, v.ownBlock = some k → ¬ S k) : SAr B w' x v xs most peak :=
  ⟨hk.obj h.1 hx, hk.row h.2.1 hv, h.2.2⟩
theorem SAr.later {B : Nat} {w w' : World} {x : Nat} {v : Value} {xs : List Value} {most peak : Nat} (h : SAr B w x v xs most peak) (hk : Below w.heap.size w w') : SAr B w' x v xs most peak :=
  h.keeps (Keeps.ofBelow hk) (by have := lt_of_block h.1; omega) (fun k hk' => by have := h.2.1.lt k hk'; omega)
theorem SAr.cells {B : Nat} {w : World} {x : Nat} {v : Value} {xs : List Value} {most peak : Nat} (h : SAr B w x v xs most peak) :
    w.cell? ⟨x, 0, none⟩ = some v ∧ w.cell? ⟨x, 1, none⟩ = some (.int .i64 most) ∧ w.cell? ⟨x, 2, none⟩ = some (.int .i64 peak) ∧ w.cell? ⟨x, 3, none⟩ = some (.bool true) ∧ (∀ k, w.frozen? ⟨x, k, none⟩ = false) := by
  have hb := block_cell' h.1
  exact ⟨(hb 0).1, (hb 1).1, (hb 2).1, (hb 3).1, fun k => (hb k).2⟩
theorem SAr.shape {B : Nat} {w : World} {x : Nat} {v : Value} {xs : List Value} {most peak : Nat} (h : SAr B w x v xs most peak) : ∃ ao cap, v = .slice ao xs.length cap ∧ xs.length ≤ cap ∧ cap ≤ 9223372036854775807 ∧ (ao = none → cap = 0 ∧ xs = []) ∧ (∀ a, ao = some a → ∃ g, a = ⟨g, 0, none⟩ ∧ v.ownBlock = some g) := by
  rcases h.2.1.2 with ⟨rfl, h0⟩ | ⟨g, cap, cur, rfl, _, _, hc, hm, _⟩
  · exact ⟨none, 0, by rw [h0], by omega, by omega, fun _ => ⟨rfl, List.eq_nil_of_length_eq_zero h0⟩, (fun a h => by cases h)⟩
  · exact ⟨_, cap, rfl, hc, by unfold maxLen at hm; omega, (fun h => by cases h), fun a ha => ⟨g, by simp at ha; exact ha.symm, rfl⟩⟩

set_option maxHeartbeats 400000 in
theorem Sthere {B : Nat} {x : Nat} {v : Value} {xs : List Value} {most peak : Nat} (w : World) (h : SAr B w x v xs most peak) :
    Calls Try.prog 42 #[.pointer (some ⟨x, 0, none⟩)] w fun e w' => e = .returned (.bool true) ∧ w = w' := by
  obtain ⟨h0, h1, h2, h3, h4⟩ := h.cells
  clear h0 h1 h2 h4
  have H := Lib.hid h
  clear h
  go_enter Try.func42, Try.ntmps42
  go_wp2
  go_ret
  exact ⟨rfl, rfl⟩

set_option maxHeartbeats 400000 in
theorem Shas (w : World) (x : Nat) (ao : Option Addr) (n cap : Nat) (k : Int) (h0 : w.cell? ⟨x, 0, none⟩ = some (.slice ao n cap)) (_hn : n ≤ 9223372036854775807) :
    Calls Try.prog 46 #[.pointer (some ⟨x, 0, none⟩), .int .i64 k] w fun e w' => e = .returned (.bool (decide (0 ≤ k ∧ k < n))) ∧ w = w' := by
  by_cases h1 : 0 ≤ k
  · have hd : decide (0 ≤ k ∧ k < n) = decide (k < n) := by simp [h1]
    rw [hd]
    clear hd
    go_enter Try.func46, Try.ntmps46
    go_wp2
    go_ret
    exact ⟨rfl, rfl⟩
  · have hd : decide (0 ≤ k ∧ k < n) = false := by simp; omega
    rw [hd]
    clear hd
    go_enter Try.func46, Try.ntmps46
    go_wp2
    go_ret
    exact ⟨rfl, rfl⟩

set_option maxHeartbeats 400000 in
theorem Slen {B : Nat} {x : Nat} {v : Value} {xs : List Value} {most peak : Nat} (w : World) (h : SAr B w x v xs most peak) :
    Calls Try.prog 33 #[.pointer (some ⟨x, 0, none⟩)] w fun e w' => e = .returned (.int .i64 xs.length) ∧ w = w' := by
  have H := Lib.hid h
  obtain ⟨h0, h1, h2, h3, h4⟩ := h.cells
  obtain ⟨ao, cap, rfl, hl, hm, hnil, hao⟩ := h.shape
  clear h1 h2 h3 h4 hao hnil h
  go_enter Try.func33, Try.ntmps33
  go_wp2_with (go_at_call 42; refine (Sthere _ H.out).mono ?_; rintro e w' ⟨rfl, rfl⟩)
  go_ret
  exact ⟨rfl, rfl⟩

set_option maxHeartbeats 400000 in
theorem Smark {B : Nat} {x : Nat} {v : Value} {xs : List Value} {most peak : Nat} (w : World) (h : SAr B w x v xs most peak) :
    Calls Try.prog 30 #[.pointer (some ⟨x, 0, none⟩)] w fun e w' => e = .returned (.int .i64 xs.length) ∧ w = w' := by
  have H := Lib.hid h
  clear h
  go_enter Try.func30, Try.ntmps30
  go_wp2_with (go_at_call 33; refine (Slen _ H.out).mono ?_; rintro e w' ⟨rfl, rfl⟩)
  go_ret
  exact ⟨rfl, rfl⟩

set_option maxHeartbeats 400000 in
theorem Speak {B : Nat} {x : Nat} {v : Value} {xs : List Value} {most peak : Nat} (w : World) (h : SAr B w x v xs most peak) :
    Calls Try.prog 34 #[.pointer (some ⟨x, 0, none⟩)] w fun e w' => e = .returned (.int .i64 peak) ∧ w = w' := by
  have H := Lib.hid h
  obtain ⟨h0, h1, h2, h3, h4⟩ := h.cells
  clear h0 h1 h3 h4 h
  go_enter Try.func34, Try.ntmps34
  go_wp2_with (go_at_call 42; refine (Sthere _ H.out).mono ?_; rintro e w' ⟨rfl, rfl⟩)
  go_ret
  exact ⟨rfl, rfl⟩

set_option maxHeartbeats 400000 in
theorem Sleft {B : Nat} {x : Nat} {v : Value} {xs : List Value} {most peak : Nat} (w : World) (h : SAr B w x v xs most peak) :
    Calls Try.prog 43 #[.pointer (some ⟨x, 0, none⟩)] w fun e w' => e = .returned (.int .i64 ((most : Int) - xs.length)) ∧ ∃ m, w' = w.drewN m := by
  have H := Lib.hid h
  obtain ⟨h0, h1, h2, h3, h4⟩ := h.cells
  obtain ⟨ao, cap, rfl, hl, hm, hnil, hao⟩ := h.shape
  have hlm := h.2.2.1
  have hmm := h.2.2.2.1
  clear h2 h3 h4 hao hnil h
  have hsub : IntKind.i64.wrap ((most : Int) - xs.length) = (most : Int) - xs.length := IntWalk.i64_in _ (by omega)
  go_enter Try.func43, Try.ntmps43
  go_wp2_with (go_at_call 42; refine (Sthere _ H.out).mono ?_; rintro e w' ⟨rfl, rfl⟩)
  go_quiet (fail)
  go_wp2
  go_ret
  exact ⟨rfl, _, rfl⟩

set_option maxHeartbeats 400000 in
theorem Sat {B : Nat} {x : Nat} {v : Value} {xs : List Value} {most peak : Nat} (w : World) (k : Int) (h : SAr B w x v xs most peak) :
    Calls Try.prog 32 #[.pointer (some ⟨x, 0, none⟩), .int .i64 k] w fun e w' => e = .returned (.tuple #[if 0 ≤ k then xs.getD k.toNat (.string ⟨#[]⟩) else .string ⟨#[]⟩, .bool (decide (0 ≤ k ∧ k < xs.length))]) ∧ w = w' := by
  have H := Lib.hid h
  obtain ⟨h0, h1, h2, h3, h4⟩ := h.cells
  obtain ⟨ao, cap, rfl, hl, hm, hnil, hao⟩ := h.shape
  have hcl := own_cells h.2.2.2.2.2.2 h.2.1
  have H1 := h.2.2.2.2.2.2
  have Hlt := h.2.2.1
  have Hlm := h.2.2.2.1
  clear h1 h2 h3 h4 h
  have Hnil := Lib.hid hnil
  have Hao := Lib.hid hao
  have Hcl := Lib.hid hcl
  have H1' := Lib.hid H1
  clear hnil hao hcl H1
  by_cases hk : 0 ≤ k ∧ k < xs.length
  · obtain ⟨j, rfl⟩ : ∃ j : Nat, k = j := ⟨k.toNat, by omega⟩
    have hj : j < xs.length := by omega
    have hfin : (if (0 : Int) ≤ j then xs.getD (j : Int).toNat (.string ⟨#[]⟩) else .string ⟨#[]⟩) = xs[j] := by simp [hj]
    rw [hfin, decide_eq_true hk]
    clear hfin
    have hhas := Shas w x ao xs.length cap j h0 (by omega)
    rw [decide_eq_true hk] at hhas
    have Hhas := Lib.hid hhas
    clear hhas hk
    obtain ⟨ao', b, off, cap', he, _, _, _, hao', _, hc⟩ := Hcl.out
    simp only [Value.slice.injEq] at he
    obtain ⟨rfl, _, rfl⟩ := he
    have hcell := hc j hj
    have h1c := H1'.out _ (List.getElem_mem hj)
    obtain rfl := hao' (by omega)
    obtain ⟨u, hu⟩ : ∃ u, u = xs[j] := ⟨_, rfl⟩
    rw [← hu] at hcell h1c ⊢
    clear hu hc hao'
    have hjn : (j : Int) < xs.length := by omega
    go_enter Try.func32, Try.ntmps32
    go_wp2_with (first | (go_at_call 42; refine (Sthere _ H.out).mono ?_; rintro e w' ⟨rfl, rfl⟩) | (go_at_call 46; refine Hhas.out.mono ?_; rintro e w' ⟨rfl, rfl⟩))
    go_ret2
    exact ⟨rfl, rfl⟩
  · have hfin : (if (0 : Int) ≤ k then xs.getD k.toNat (.string ⟨#[]⟩) else .string ⟨#[]⟩) = .string ⟨#[]⟩ := by
      split
      · rw [List.getD_eq_getElem?_getD, List.getElem?_eq_none (by omega)]; rfl
      · rfl
    rw [hfin, decide_eq_false hk]
    clear hfin
    have hhas := Shas w x ao xs.length cap k h0 (by omega)
    rw [decide_eq_false hk] at hhas
    have Hhas := Lib.hid hhas
    clear hhas hk
    go_enter Try.func32, Try.ntmps32
    go_wp2_with (first | (go_at_call 42; refine (Sthere _ H.out).mono ?_; rintro e w' ⟨rfl, rfl⟩) | (go_at_call 46; refine Hhas.out.mono ?_; rintro e w' ⟨rfl, rfl⟩))
    go_ret2
    exact ⟨rfl, rfl⟩

/-! ### arena.Arena[string]: what changes it -/
set_option maxHeartbeats 400000 in
theorem Snew_neg (k : Int) (w : World) (hk : k < 0) : Calls Try.prog 28 #[.int .i64 k] w fun e w' => e = .returned (.pointer none) ∧ w = w' := by
  go_enter Try.func28, Try.ntmps28
  go_wp2
  go_ret
  exact ⟨rfl, rfl⟩

set_option maxHeartbeats 400000 in
theorem Snew (k : Nat) (w : World) (hk : k ≤ 9223372036854775807) : Calls Try.prog 28 #[.int .i64 k] w fun e w' => e = .returned (.pointer (some ⟨w.heap.size, 0, none⟩)) ∧ SAr w.heap.size w' w.heap.size (.slice none 0 0) [] k 0 ∧ Below w.heap.size w w' := by
  go_enter Try.func28, Try.ntmps28
  go_wp2
  go_ret
  refine ⟨rfl, ⟨heap_alloc_new w _, (World.ownsRow_nil _ _ _ _), by simp, hk, by omega, by simp, by simp⟩, (Below.refl _ _).alloc (Nat.le_refl _) _⟩

/-- what an append leaves of an arena. -/
def SAdd (B : Nat) (w : World) (x : Nat) (v : Value) (xs ys : List Value) (most peak : Nat) (w' : World) : Prop :=
  ∃ v', w'.heap[x]? = some (.cells #[v', .int .i64 most, .int .i64 peak, .bool true] 74 (0, 0)) ∧ w'.ownsRow B 9 1 v' (xs ++ ys).length (xs ++ ys) ∧ Keeps (fun k => k = x ∨ v.ownBlock = some k) w w' ∧ (∀ k, v'.ownBlock = some k → v.ownBlock = some k ∨ w.heap.size ≤ k)

set_option maxHeartbeats 1000000 in
theorem Sadd {B : Nat} {x : Nat} {v vl : Value} {xs ys : List Value} {most peak : Nat} (w : World) (h : SAr B w x v xs most peak) (hy : CellsAt w vl ys) (hl : xs.length + ys.length ≤ 1000000) (hB : B ≤ w.heap.size) :
    Calls Try.prog 44 #[.pointer (some ⟨x, 0, none⟩), vl] w fun e w' => e = .returned (.int .i64 xs.length) ∧ SAdd B w x v xs ys most peak w' := by
  obtain ⟨h0, h1, h2, h3, h4⟩ := h.cells
  have hf := h4 0
  have hblk := h.1
  have hown := h.2.1
  have hoc := own_ne' h.1 (by decide) h.2.1
  have hshape := h.shape
  have hxl := lt_of_block h.1
  clear h1 h2 h3 h4
  obtain ⟨ao, b, off, cap, rfl, hlc, hm, hnil, hao, h1c, hc⟩ := hy
  have Hc := Lib.hid hc
  have Hao := Lib.hid hao
  have Hnil := Lib.hid hnil
  have H1 := Lib.hid h1c
  have Hown := Lib.hid hown
  have Hoc := Lib.hid hoc
  have Hblk := Lib.hid hblk
  have HB := Lib.hid hB
  obtain ⟨ao', cap', hv, hl', hm', hnil', hao'⟩ := hshape
  clear hc hao hnil h1c hown hoc hblk hao' hnil' hm h
  subst hv
  obtain ⟨i0, hi, hz0, hz1, hz2⟩ := info_parts Try.infoES
  go_enter Try.func44, Try.ntmps44
  go_wp2_with (at_builtin; refine wpList_append_mine _ rfl (.tmp 15) (.tmp 16) 70 rfl B 9 i0 (.string ⟨#[]⟩) 1 16 Try.underlying70 hi hz0 hz1 hz2 rfl (by decide) _ xs.length xs rfl Hown.out ao ys.length cap ys rfl (by simp) Hnil.out (cells_news Hao.out Hc.out) H1.out (by unfold maxLen; omega) (by omega) HB.out ?_; intro v2 w1 hown1 hg1 hfr1; have hb1 := (Keeps.refl (fun k => k = x ∨ (Value.slice ao' xs.length cap').ownBlock = some k) w).grown hg1 (fun k hk => Or.inr hk); have hblk1 : w1.heap[x]? = some (.cells #[.slice ao' xs.length cap', .int .i64 most, .int .i64 peak, .bool true] 74 (0, 0)) := (hg1.block x hxl (fun e => Hoc.out e.symm)).trans Hblk.out; obtain ⟨ao2, cap2, rfl⟩ := own_val hown1; have hcx := (block_cell' hblk1 0).1; have hfx := (block_cell' hblk1 0).2; have Hown1 := Lib.hid hown1; have Hfr1 := Lib.hid hfr1; have Hblk1 := Lib.hid hblk1; have Hg1 := Lib.hid hg1; clear hown1 hfr1 hblk1 hg1)
  go_ret
  refine ⟨rfl, _, block_setCell' Hblk1.out, ?_, hb1.setCell (Or.inl rfl) _, Hfr1.out⟩
  have hne : (Value.slice ao2 (xs.length + ys.length) cap2).ownBlock ≠ some x := own_ne' Hblk1.out (by decide) Hown1.out
  rw [List.length_append]
  exact ownsRow_setCell_other Hown1.out (a := ⟨x, 0, none⟩) hne _

/-- what changes an arena may leave of it: the block of its things is the elder one, or new. -/
def SNow (B : Nat) (w : World) (x : Nat) (v : Value) (xs : List Value) (most peak : Nat) (w' : World) : Prop :=
  ∃ v', SAr B w' x v' xs most peak ∧ Keeps (fun k => k = x ∨ v.ownBlock = some k) w w' ∧ (∀ k, v'.ownBlock = some k → v.ownBlock = some k ∨ w.heap.size ≤ k)

theorem SNow.self {B : Nat} {w : World} {x : Nat} {v : Value} {xs : List Value} {most peak : Nat} (h : SAr B w x v xs most peak) (n : Nat) : SNow B w x v xs most peak (w.drewN n) :=
  ⟨v, h, (Keeps.refl _ _).drewN n, fun _ hk => .inl hk⟩

set_option maxHeartbeats 1000000 in
theorem Sput_full {B : Nat} {x : Nat} {v vl : Value} {xs ys : List Value} {most peak : Nat} (w : World) (h : SAr B w x v xs most peak) (hy : CellsAt w vl ys) (hf : most < xs.length + ys.length) :
    Calls Try.prog 29 #[.pointer (some ⟨x, 0, none⟩), vl] w fun e w' => e = .returned (.tuple #[.int .i64 0, .int .i64 12]) ∧ ∃ n, w' = w.drewN n := by
  have H := Lib.hid h
  have hlm := h.2.2.1
  clear h
  obtain ⟨ao, b, off, cap, rfl, hlc, hm, hnil, hao, h1c, hc⟩ := hy
  have hf' : (most : Int) - xs.length < ys.length := by omega
  clear hc hao hnil h1c
  unfold maxLen at hm
  go_enter Try.func29, Try.ntmps29
  go_wp2_with (first | (go_at_call 42; refine (Sthere _ H.out).mono ?_; rintro e w' ⟨rfl, rfl⟩) | (go_at_call 43; refine (Sleft _ H.out).mono ?_; rintro e w' ⟨rfl, m, rfl⟩))
  go_ret2
  exact ⟨rfl, _, rfl⟩

theorem Sput_fin {B : Nat} {x m : Nat} {v v2 : Value} {xs : List Value} {most peak p2 : Nat} {w w1 : World} {q : Int} (hblk : w1.heap[x]? = some (.cells #[v2, .int .i64 most, .int .i64 peak, .bool true] 74 (0, 0))) (hown : w1.ownsRow B 9 1 v2 xs.length xs)
    (hk : Keeps (fun k => k = x ∨ v.ownBlock = some k) (w.drewN m) w1) (hfr : ∀ k, v2.ownBlock = some k → v.ownBlock = some k ∨ (w.drewN m).heap.size ≤ k) (hm : most ≤ 9223372036854775807) (h1 : xs.length ≤ most) (h2 : p2 ≤ most) (h3 : xs.length ≤ p2) (h4 : ∀ u ∈ xs, u.oneCell' = true) (hq : q = (p2 : Nat)) :
    SNow B w x v xs most p2 (w1.setCell ⟨x, 2, none⟩ (.int .i64 q)).drew := by
  subst hq
  have hne : v2.ownBlock ≠ some x := own_ne' hblk (by decide) hown
  have hk' : Keeps (fun k => k = x ∨ v.ownBlock = some k) w w1 := ((Keeps.refl _ w).drewN m).trans hk
  refine ⟨v2, ⟨?_, ?_, h1, hm, h2, h3, h4⟩, (hk'.setCell (Or.inl rfl) _).drew, hfr⟩
  · exact block_setCell' hblk
  · exact ownsRow_setCell_other hown (a := ⟨x, 2, none⟩) hne _

set_option maxHeartbeats 2000000 in
theorem Sput {B : Nat} {x : Nat} {v vl : Value} {xs ys : List Value} {most peak : Nat} (w : World) (h : SAr B w x v xs most peak) (hy : CellsAt w vl ys) (hf : xs.length + ys.length ≤ most) (hl : xs.length + ys.length ≤ 1000000) (hB : B ≤ w.heap.size) :
    Calls Try.prog 29 #[.pointer (some ⟨x, 0, none⟩), vl] w fun e w' => e = .returned (.tuple #[.int .i64 xs.length, .int .i64 0]) ∧ SNow B w x v (xs ++ ys) most (max peak (xs ++ ys).length) w' := by
  have H := Lib.hid h
  have Hy := Lib.hid hy
  have hlm := h.2.2.1
  have hxy : (∀ u ∈ xs ++ ys, u.oneCell' = true) := by
    obtain ⟨_, _, _, _, _, _, _, _, _, h1c, _⟩ := hy
    intro u hu
    rcases List.mem_append.1 hu with hu | hu
    · exact h.2.2.2.2.2.2 u hu
    · exact h1c u hu
  have Hxy := Lib.hid hxy
  have hmost := h.2.2.2.1
  have hpk := h.2.2.2.2.1
  have hxp := h.2.2.2.2.2.1
  clear h hxy
  obtain ⟨ao, b, off, cap, rfl, hlc, hm, hnil, hao, h1c, hc⟩ := hy
  have hf' : ¬ (most : Int) - xs.length < ys.length := by omega
  clear hc hao hnil h1c
  unfold maxLen at hm
  have HB := Lib.hid hB
  clear hB
  go_enter Try.func29, Try.ntmps29
  go_wp2_with (first | (go_at_call 42; refine (Sthere _ H.out).mono ?_; rintro e w' ⟨rfl, rfl⟩) | (go_at_call 43; refine (Sleft _ H.out).mono ?_; rintro e w' ⟨rfl, m, rfl⟩) | (go_at_call 44; refine (Sadd _ (H.out.later (below_draws (Below.refl _ _) m)) (Hy.out.later (below_draws (Below.refl _ _) m)) hl HB.out).mono ?_; rintro e w1 ⟨rfl, hadd⟩))
  obtain ⟨v2, hblk, hown, hkeep, hfr⟩ := hadd
  have hbc := block_cell' hblk
  obtain ⟨ao2, cap2, rfl⟩ := own_val hown
  have hc0 := (hbc 0).1
  have hc2 := (hbc 2).1
  have hf2 := (hbc 2).2
  have Hown := Lib.hid hown
  have Hblk := Lib.hid hblk
  have Hfr := Lib.hid hfr
  have Hk := Lib.hid hkeep
  have hmax : (if (peak : Int) < ((xs ++ ys).length : Nat) then (((xs ++ ys).length : Nat) : Int) else (peak : Int)) = ((max peak (xs ++ ys).length : Nat) : Int) := by omega
  have Hmax := Lib.hid hmax
  clear hown hblk hfr hkeep hbc hmax
  simp only [List.length_append] at hc0
  have hlen2 : (xs ++ ys).length = xs.length + ys.length := List.length_append
  have Hlen := Lib.hid hlen2
  clear hlen2
  go_still_tail 14, (by kernel_rfl)
  go_wp2
  all_goals
    go_ret2
    exact ⟨rfl, Sput_fin Hblk.out Hown.out Hk.out Hfr.out hmost (by rw [Hlen.out]; omega) (by have := Hlen.out; omega) (by have := Hlen.out; omega) Hxy.out (by have := Hlen.out; omega)⟩
set_option maxHeartbeats 400000 in
theorem Sback_out {B : Nat} {x : Nat} {v : Value} {xs : List Value} {most peak : Nat} (w : World) (k : Int) (h : SAr B w x v xs most peak) (hk : k < 0 ∨ xs.length < k) :
    Calls Try.prog 31 #[.pointer (some ⟨x, 0, none⟩), .int .i64 k] w fun e w' => e = .returned (.int .i64 6) ∧ w = w' := by
  have H := Lib.hid h
  obtain ⟨h0, h1, h2, h3, h4⟩ := h.cells
  obtain ⟨ao, cap, rfl, hl, hm, hnil, hao⟩ := h.shape
  clear h1 h2 h3 h4 hao hnil h
  by_cases hk0 : k < 0
  · clear hk
    go_enter Try.func31, Try.ntmps31
    go_wp2_with (first | (go_at_call 42; refine (Sthere _ H.out).mono ?_; rintro e w' ⟨rfl, rfl⟩))
    go_ret
    exact ⟨rfl, rfl⟩
  · have hk1 : 0 ≤ k := by omega
    have hk2 : (xs.length : Int) < k := by omega
    clear hk hk0
    go_enter Try.func31, Try.ntmps31
    go_wp2_with (first | (go_at_call 42; refine (Sthere _ H.out).mono ?_; rintro e w' ⟨rfl, rfl⟩))
    go_ret
    exact ⟨rfl, rfl⟩

/-- slices.Delete from m to the end, of an arena's things. -/
def SDel (B : Nat) (w : World) (g cap m : Nat) (xs : List Value) (w' : World) : Prop :=
  w'.ownsRow B 9 1 (.slice (some ⟨g, 0, none⟩) m cap) m (xs.take m) ∧ Keeps (fun k => k = g) w w'

theorem Sdel {B : Nat} {g cap m : Nat} {zs : List ByteArray} (w : World) (hown : w.ownsRow B 9 1 (.slice (some ⟨g, 0, none⟩) zs.length cap) zs.length (zs.map Value.string)) (hl : zs.length ≤ cap) (hm : cap ≤ 9223372036854775807) (hmz : m ≤ zs.length) :
    Calls Try.prog 45 #[.slice (some ⟨g, 0, none⟩) zs.length cap, .int .i64 m, .int .i64 zs.length] w fun e w' => e = .returned (.slice (some ⟨g, 0, none⟩) m cap) ∧ SDel B w g cap m (zs.map Value.string) w' := by
  have hsx : ∀ (k : Nat) (hk : k ≤ zs.length), (Lib.strsOf (fun i => zs.getD i ⟨#[]⟩) k).map encStr = (zs.map Value.string).take k := by
    intro k hk
    unfold Lib.strsOf
    apply List.ext_getElem
    · simp; omega
    · intro i h1 h2
      simp at h1
      simp [encStr, List.getElem?_eq_getElem (show i < zs.length by omega)]
  refine (Try.slices_Delete_string_cells g 0 zs.length cap m zs.length (fun i => zs.getD i ⟨#[]⟩) w hl hm hmz (Nat.le_refl _) (fun j hj => ?_) (fun j hj => ?_)).mono ?_
  · rw [Nat.zero_add, hown.cellAt j (by omega)]
    simp [hj]
  · rw [Nat.zero_add]; exact hown.frozenAt j
  · rintro e w' ⟨rfl, q, rfl⟩
    refine ⟨by congr 2; omega, ?_, ((Keeps.refl _ w).drewN q).trans (keeps_setCells _ _)⟩
    have hq : (w.drewN q).ownsRow B 9 1 (.slice (some ⟨g, 0, none⟩) zs.length cap) zs.length (zs.map Value.string) := hown
    have hlen : (Lib.strsOf (fun i => zs.getD i ⟨#[]⟩) zs.length).length = zs.length := by unfold Lib.strsOf; rw [List.length_map, List.length_range]
    have hfull := hsx zs.length (Nat.le_refl _)
    generalize Lib.strsOf (fun i => zs.getD i ⟨#[]⟩) zs.length = ST at *
    have := ownsRow_setCells (m := m) (vs := ((ST.take m ++ ST.drop zs.length ++ List.replicate (zs.length - m) []).map encStr)) hq (by simp [hlen]; omega) hmz
    have e : ((ST.take m ++ ST.drop zs.length ++ List.replicate (zs.length - m) []).map encStr).take m = (zs.map Value.string).take m := by
      rw [List.map_append, List.map_append, List.map_take, List.append_assoc, List.take_append_of_le_length (by simp [hlen]; omega), List.take_take, hfull, List.take_take]
      simp only [Nat.min_self]
      congr 1; omega
    rw [e] at this
    exact this

set_option maxHeartbeats 1000000 in
theorem Sback {B : Nat} {x : Nat} {v : Value} {zs : List ByteArray} {most peak : Nat} (w : World) (m : Nat) (h : SAr B w x v (zs.map Value.string) most peak) (hk : m ≤ zs.length) :
    Calls Try.prog 31 #[.pointer (some ⟨x, 0, none⟩), .int .i64 m] w fun e w' => e = .returned (.int .i64 0) ∧ SNow B w x v ((zs.take m).map Value.string) most peak w' := by
  have H := Lib.hid h
  obtain ⟨h0, h1, h2, h3, h4⟩ := h.cells
  have hf := h4 0
  have hne : v.ownBlock ≠ some x := own_ne' h.1 (by decide) h.2.1
  obtain ⟨ao, cap, rfl, hl, hm, hnil, hao⟩ := h.shape
  simp only [List.length_map] at h0 hl
  have Hne := Lib.hid hne
  have hmn : (m : Int) ≤ zs.length := by omega
  cases ao with
  | none =>
    have hz := (hnil rfl).2
    have hz0 : zs = [] := by simpa using hz
    have hc0 := (hnil rfl).1
    subst hz0
    obtain rfl : m = 0 := by simpa using hk
    subst hc0
    clear h1 h2 h3 h4 hao hnil h hne hz hmn hk hl hm
    simp only [List.length_nil] at h0
    go_enter Try.func31, Try.ntmps31
    go_wp2_with (first | (go_at_call 42; refine (Sthere _ H.out).mono ?_; rintro e w' ⟨rfl, rfl⟩))
    go_region_with ((go_at_call 45; refine (Try.slices_Delete_string_empty none 0 _).mono ?_; rintro e w1 ⟨rfl, rfl⟩))
    all_goals go_wp2
    all_goals go_ret
    all_goals
      have h := H.out
      refine ⟨rfl, .slice none 0 0, ⟨?_, World.ownsRow_nil _ _ _ _, by simp, h.2.2.2.1, h.2.2.2.2.1, by simp, by simp⟩, ((Keeps.refl _ _).setCell (Or.inl rfl) _).drew, fun k hk => .inl hk⟩
      exact block_setCell' h.1
  | some a =>
    obtain ⟨g, rfl, hg⟩ := hao a rfl
    have hgx : g ≠ x := fun e => Hne.out (by rw [← e]; rfl)
    have hrow := h.2.1
    simp only [List.length_map] at hrow
    have Hrow := Lib.hid hrow
    have hxl := lt_of_block h.1
    clear h1 h2 h3 h4 hao hnil h hne hg hrow
    go_enter Try.func31, Try.ntmps31
    go_wp2_with (first | (go_at_call 42; refine (Sthere _ H.out).mono ?_; rintro e w' ⟨rfl, rfl⟩))
    go_region_with ((go_at_call 45; refine (Sdel (B := B) _ (Hrow.out.drew) hl hm hk).mono ?_; rintro e w1 ⟨rfl, hdel⟩; obtain ⟨hd1, hd2⟩ := hdel; have hblk := hd2.obj (show w.drew.heap[x]? = _ from H.out.1) (Ne.symm hgx); have hcx := (block_cell' hblk 0).1; have hfx := (block_cell' hblk 0).2; have Hd1 := Lib.hid hd1; have Hd2 := Lib.hid hd2; have Hblk := Lib.hid hblk; clear hd1 hd2 hblk))
    all_goals go_wp2
    all_goals go_ret
    all_goals
      have h := H.out
      have hlen : ((zs.take m).map Value.string).length = m := by simp; omega
      refine ⟨rfl, .slice (some ⟨g, 0, none⟩) m cap, ⟨?_, ?_, ?_, h.2.2.2.1, h.2.2.2.2.1, ?_, ?_⟩, ?_, fun k hk => .inl hk⟩
      · exact block_setCell' Hblk.out
      · rw [hlen]
        have := Hd1.out
        rw [← List.map_take] at this
        refine ownsRow_setCell_other this (a := ⟨x, 0, none⟩) ?_ _
        intro e; simp [Value.ownBlock] at e; exact hgx e
      · have := h.2.2.1; simp at this; rw [hlen]; omega
      · have := h.2.2.2.2.2.1; simp at this; rw [hlen]; omega
      · intro u hu
        obtain ⟨z, hz, rfl⟩ := List.mem_map.1 hu
        exact h.2.2.2.2.2.2 _ (List.mem_map_of_mem (List.mem_of_mem_take hz))
      · exact ((((Keeps.refl (fun k => k = x ∨ (Value.slice (some ⟨g, 0, none⟩) (zs.map Value.string).length cap).ownBlock = some k) w).drew).trans (Hd2.out.mono (fun k _ hk => Or.inr (congrArg some hk.symm)))).setCell (p := ⟨x, 0, none⟩) (Or.inl rfl) _)

end Go.Proofs.Ytonnolhhgeekpaa
