/-
  Spans and the stack's entries: what is asked of them.
-/
import Derived.Test.YtkimkghldilliaaGreatTwg
import Derived.StillTailTactics
import Derived.Deep.CutBlock
import Derived.Deep.DeepCutAuto
import Derived.Deep.RegionLaw
import Derived.Deep.RegionHeld3
import Derived.Deep.AppendLies
namespace Go.Proofs.YtkimkghldilliaaGreat
open Go.RowKit Go.Lib

def srB (a b : Int) : Bool := decide (0 ≤ a ∧ a ≤ b)
def siB (a b c d : Int) : Bool := decide (0 ≤ a ∧ a ≤ b ∧ 0 ≤ c ∧ c ≤ d ∧ c ≤ a ∧ b ≤ d)
def shB (a b p : Int) : Bool := decide (0 ≤ a ∧ a ≤ b ∧ a ≤ p ∧ p < b)
def opv (o : Op) : Value := .agg #[.int .i64 o.left, .int .i64 o.sf, .int .i64 o.st, .int .i64 o.to]
theorem ret_bool {a b : Bool} (h : a = b) : Ending.returned (.bool a) = .returned (.bool b) := by rw [h]
theorem line_any (a b : Int) (w : World) : Calls Tryz.prog 164 #[.agg #[.int .i64 a, .int .i64 b]] w fun e w' => e = .returned (.bool (srB a b)) ∧ Below w.heap.size w w' := by
  by_cases h1 : 0 ≤ a
  · by_cases h2 : a ≤ b
    all_goals
      go_enter Tryz.func164, Tryz.ntmps164
      go_wp2
      go_ret
      exact ⟨ret_bool (by simp [srB, h1, h2]), (Below.refl _ _).alloc (Nat.le_refl _) _⟩
  · go_enter Tryz.func164, Tryz.ntmps164
    go_wp2
    go_ret
    exact ⟨ret_bool (by simp [srB]; omega), (Below.refl _ _).alloc (Nat.le_refl _) _⟩
theorem sRight_any (a b : Int) (w : World) : Calls Tryz.prog 146 #[.agg #[.int .i64 a, .int .i64 b]] w fun e w' => e = .returned (.bool (srB a b)) ∧ Below w.heap.size w w' := by
  go_enter Tryz.func146, Tryz.ntmps146
  go_wp2_with (go_at_call 164; refine (line_any _ _ _).mono ?_; rintro e w' ⟨rfl, hb⟩)
  go_ret
  exact ⟨rfl, ((Below.refl _ _).alloc (Nat.le_refl _) _).trans (hb.mono (by simp))⟩
theorem box2_later {w w' : World} {a b : Value} {t : TypeId} (hb : Below (w.alloc (.cells #[a, b] t)).heap.size (w.alloc (.cells #[a, b] t)) w') : w'.cell? ⟨w.heap.size, 0, none⟩ = some a ∧ w'.cell? ⟨w.heap.size, 1, none⟩ = some b := by
  have h := (hb.block w.heap.size (by simp)).trans (heap_alloc_new w (.cells #[a, b] t))
  exact ⟨(block_cell' h 0).1, (block_cell' h 1).1⟩
theorem gen_world {P : Program} {c : Code} {Q : Exit → Act → World → Prop} {a : Act} {w : World} (S : World → Prop) (h : S w) (k : ∀ w', S w' → c.wp P Q a w') : c.wp P Q a w := k w h
theorem one_new (w : World) (o1 : Obj) : Below w.heap.size w (w.alloc o1) ∧ (w.alloc o1).heap[w.heap.size]? = some o1 := ⟨(Below.refl _ _).alloc (Nat.le_refl _) _, heap_alloc_new w _⟩
theorem two_new (w : World) (o1 o2 : Obj) : Below w.heap.size w ((w.alloc o1).alloc o2) ∧ ((w.alloc o1).alloc o2).heap[w.heap.size]? = some o1 ∧ ((w.alloc o1).alloc o2).heap[w.heap.size + 1]? = some o2 := by
  refine ⟨((Below.refl _ _).alloc (Nat.le_refl _) _).alloc (by simp) _, (Below.heap_alloc _ _ _ (by simp)).trans (heap_alloc_new w _), ?_⟩
  have := heap_alloc_new (w.alloc o1) o2
  simpa using this
theorem two_box {w : World} {b : Nat} {x0 x1 : Value} {t : TypeId} (h : w.heap[b]? = some (.cells #[x0, x1] t (0, 0))) : w.cell? ⟨b, 0, none⟩ = some x0 ∧ w.cell? ⟨b, 1, none⟩ = some x1 := ⟨(block_cell' h 0).1, (block_cell' h 1).1⟩
theorem four_box {w : World} {b : Nat} {x0 x1 x2 x3 : Value} {t : TypeId} (h : w.heap[b]? = some (.cells #[x0, x1, x2, x3] t (0, 0))) : w.cell? ⟨b, 0, none⟩ = some x0 ∧ w.cell? ⟨b, 1, none⟩ = some x1 ∧ w.cell? ⟨b, 2, none⟩ = some x2 ∧ w.cell? ⟨b, 3, none⟩ = some x3 := ⟨(block_cell' h 0).1, (block_cell' h 1).1, (block_cell' h 2).1, (block_cell' h 3).1⟩
theorem five_box {w : World} {b : Nat} {x0 x1 x2 x3 x4 : Value} {t : TypeId} (h : w.heap[b]? = some (.cells #[x0, x1, x2, x3, x4] t (0, 0))) : w.cell? ⟨b, 0, none⟩ = some x0 ∧ w.cell? ⟨b, 1, none⟩ = some x1 ∧ w.cell? ⟨b, 2, none⟩ = some x2 ∧ w.cell? ⟨b, 3, none⟩ = some x3 ∧ w.cell? ⟨b, 4, none⟩ = some x4 := ⟨(block_cell' h 0).1, (block_cell' h 1).1, (block_cell' h 2).1, (block_cell' h 3).1, (block_cell' h 4).1⟩
theorem both_any (a b c d : Int) (w : World) : Calls Tryz.prog 165 #[.agg #[.int .i64 a, .int .i64 b], .agg #[.int .i64 c, .int .i64 d]] w fun e w' => e = .returned (.bool (srB a b && srB c d)) ∧ Below w.heap.size w w' := by
  cases h1 : srB a b
  · have H1 := Lib.hid h1
    have HA := Lib.hid (fun u => (sRight_any a b u))
    rw [h1] at HA
    clear h1
    go_enter Tryz.func165, Tryz.ntmps165
    go_wp2_with (go_at_call 146; refine (HA.out _).mono ?_; rintro e w' ⟨rfl, hb⟩)
    go_ret
    exact ⟨rfl, (((Below.refl _ _).alloc (Nat.le_refl _) _).alloc (by simp) _).trans (hb.mono (by simp; omega))⟩
  · have HA := Lib.hid (fun u => (sRight_any a b u))
    have HC := Lib.hid (fun u => (sRight_any c d u))
    rw [h1] at HA
    clear h1
    go_enter Tryz.func165, Tryz.ntmps165
    go_upto_region 1 with (fail)
    refine gen_world (S := fun u => Below w.heap.size w u ∧ u.heap[w.heap.size]? = some (.cells #[.int .i64 a, .int .i64 b] 48 (0, 0)) ∧ u.heap[w.heap.size + 1]? = some (.cells #[.int .i64 c, .int .i64 d] 48 (0, 0))) (two_new w _ _) (fun u hu => ?_)
    obtain ⟨hb0, hx, hy⟩ := hu
    obtain ⟨x0, x1⟩ := two_box hx
    obtain ⟨y0, y1⟩ := two_box hy
    have HY := Lib.hid hy
    have HB0 := Lib.hid hb0
    obtain ⟨X, hX⟩ : ∃ X, X = w.heap.size := ⟨_, rfl⟩
    rw [← hX] at x0 x1 y0 y1 HY ⊢
    have HXe := Lib.hid hX
    clear hb0 hx hy hX
    go_wp2_with fail
    refine (HA.out _).mono ?_
    rintro e w2 ⟨rfl, hb⟩
    have HB := Lib.hid hb
    clear x0 x1 y0 y1
    obtain ⟨y0, y1⟩ := two_box ((hb.block _ (lt_of_block HY.out)).trans HY.out)
    clear hb
    go_wp2_with fail
    refine (HC.out _).mono ?_
    rintro e w3 ⟨rfl, hb⟩
    go_wp2
    go_ret
    exact ⟨rfl, HB0.out.trans ((HB.out.trans (hb.mono HB.out.size)).mono HB0.out.size)⟩
theorem sIn_any (a b c d : Int) (w : World) : Calls Tryz.prog 147 #[.agg #[.int .i64 a, .int .i64 b], .agg #[.int .i64 c, .int .i64 d]] w fun e w' => e = .returned (.bool (siB a b c d)) ∧ Below w.heap.size w w' := by
  have HA := Lib.hid (fun u => (both_any a b c d u))
  have key : ∀ q, siB a b c d = q → Hid (siB a b c d = q) := fun q h => Lib.hid h
  obtain ⟨q, hq⟩ : ∃ q, siB a b c d = q := ⟨_, rfl⟩
  have HQ := key q hq
  clear key
  cases h1 : (srB a b && srB c d)
  · have hq0 : q = false := by rw [← hq]; simp [srB, siB] at h1 ⊢; omega
    subst hq0
    rw [h1] at HA
    rw [hq]
    clear h1 hq
    go_enter Tryz.func147, Tryz.ntmps147
    go_wp2_with (go_at_call 165; refine (HA.out _).mono ?_; rintro e w' ⟨rfl, hb⟩)
    go_ret
    exact ⟨rfl, (((Below.refl _ _).alloc (Nat.le_refl _) _).alloc (by simp) _).trans (hb.mono (by simp; omega))⟩
  · have h2 : 0 ≤ a ∧ a ≤ b ∧ 0 ≤ c ∧ c ≤ d := by simp [srB] at h1; omega
    obtain ⟨h3, h4, h5, h6⟩ := h2
    rw [h1] at HA
    rw [hq]
    clear h1
    have hq2 : q = (decide (c ≤ a) && decide (b ≤ d)) := by rw [← hq]; simp [siB, h3, h4, h5, h6]
    have HQ2 := Lib.hid hq2
    clear hq hq2 HQ
    by_cases h7 : c ≤ a
    all_goals by_cases h8 : b ≤ d
    all_goals
      go_enter Tryz.func147, Tryz.ntmps147
      go_upto_region 1 with (fail)
      refine gen_world (S := fun u => Below w.heap.size w u ∧ u.heap[w.heap.size]? = some (.cells #[.int .i64 a, .int .i64 b] 48 (0, 0)) ∧ u.heap[w.heap.size + 1]? = some (.cells #[.int .i64 c, .int .i64 d] 48 (0, 0))) (two_new w _ _) (fun u hu => ?_)
      obtain ⟨hb0, hx, hy⟩ := hu
      obtain ⟨x0, x1⟩ := two_box hx
      obtain ⟨y0, y1⟩ := two_box hy
      have HX := Lib.hid hx
      have HY := Lib.hid hy
      have HB0 := Lib.hid hb0
      obtain ⟨X, hX⟩ : ∃ X, X = w.heap.size := ⟨_, rfl⟩
      rw [← hX] at x0 x1 y0 y1 HX HY ⊢
      have HXe := Lib.hid hX
      clear hb0 hx hy hX
      go_wp2_with fail
      refine (HA.out _).mono ?_
      rintro e w2 ⟨rfl, hb⟩
      have HB := Lib.hid hb
      clear x0 x1 y0 y1
      obtain ⟨x0, x1⟩ := two_box ((hb.block _ (lt_of_block HX.out)).trans HX.out)
      obtain ⟨y0, y1⟩ := two_box ((hb.block _ (lt_of_block HY.out)).trans HY.out)
      clear hb
      go_wp2
      go_ret
      exact ⟨ret_bool (by rw [HQ2.out]; simp [h7, h8]), HB0.out.trans (HB.out.mono HB0.out.size)⟩
theorem done_any (o : Op) (w : World) : Calls Tryz.prog 115 #[opv o] w fun e w' => e = .returned (.bool (o.left == 0)) ∧ Below w.heap.size w w' := by
  unfold opv
  go_enter Tryz.func115, Tryz.ntmps115
  go_wp2
  go_ret
  exact ⟨rfl, (Below.refl _ _).alloc (Nat.le_refl _) _⟩
set_option maxRecDepth 100000 in
set_option maxHeartbeats 4000000 in
theorem takes_any (o : Op) (t : Tw) (w : World) (ho : 0 ≤ o.sf ∧ o.sf ≤ o.st) : Calls Tryz.prog 116 #[opv o, twv t] w fun e w' => e = .returned (.bool (takesB o t)) ∧ Below w.heap.size w w' := by
  obtain ⟨ho1, ho2⟩ := ho
  have HR := Lib.hid (fun u => sRight_any t.fr t.to u)
  have HI := Lib.hid (fun u => sIn_any t.fr t.to o.sf o.st u)
  obtain ⟨q, hq⟩ : ∃ q, takesB o t = q := ⟨_, rfl⟩
  rw [hq]
  have HQ := Lib.hid hq
  clear hq
  unfold opv twv
  have fin : Hid (takesB o t = true ↔ 0 ≤ t.rule ∧ 0 ≤ t.lev ∧ t.lev ≤ 99 ∧ 0 ≤ t.kids ∧ srB t.fr t.to = true ∧ siB t.fr t.to o.sf o.st = true ∧ o.to ≤ t.fr) := by
    refine Lib.hid ?_
    simp only [takesB, srB, siB, decide_eq_true_eq]
    unfold okT
    constructor
    · rintro ⟨⟨a1, a2, a3, a4, a5, a6⟩, a7, a8, a9⟩
      exact ⟨a1, a2, a3, a4, ⟨a5, a6⟩, ⟨a5, a6, by omega, by omega, a7, a8⟩, a9⟩
    · rintro ⟨a1, a2, a3, a4, ⟨a5, a6⟩, ⟨b1, b2, b3, b4, b5, b6⟩, a9⟩
      exact ⟨⟨a1, a2, a3, a4, a5, a6⟩, b5, b6, a9⟩
  by_cases h0 : 0 ≤ t.rule
  rotate_left
  · go_enter Tryz.func116, Tryz.ntmps116
    go_upto_region 1 with (fail)
    refine gen_world (S := fun u => Below w.heap.size w u ∧ u.heap[w.heap.size]? = some (.cells #[.int .i64 o.left, .int .i64 o.sf, .int .i64 o.st, .int .i64 o.to] 204 (0, 0)) ∧ u.heap[w.heap.size + 1]? = some (.cells #[.int .i64 t.rule, .int .i64 t.lev, .int .i64 t.fr, .int .i64 t.to, .int .i64 t.kids] 50 (0, 0))) (two_new w _ _) (fun u hu => ?_)
    obtain ⟨hb0, hx, hy⟩ := hu
    obtain ⟨x0, x1, x2, x3⟩ := four_box hx
    obtain ⟨y0, y1, y2, y3, y4⟩ := five_box hy
    have HX := Lib.hid hx
    have HY := Lib.hid hy
    have HB0 := Lib.hid hb0
    obtain ⟨X, hX⟩ : ∃ X, X = w.heap.size := ⟨_, rfl⟩
    rw [← hX] at x0 x1 x2 x3 y0 y1 y2 y3 y4 HX HY ⊢
    have HXe := Lib.hid hX
    clear hb0 hx hy hX
    go_wp2
    go_ret
    exact ⟨ret_bool (by rw [← HQ.out]; exact (Bool.eq_false_iff.2 (fun h => by have := (fin.out.1 h).1; omega)).symm), HB0.out⟩
  by_cases h1 : 0 ≤ t.lev
  rotate_left
  · go_enter Tryz.func116, Tryz.ntmps116
    go_upto_region 1 with (fail)
    refine gen_world (S := fun u => Below w.heap.size w u ∧ u.heap[w.heap.size]? = some (.cells #[.int .i64 o.left, .int .i64 o.sf, .int .i64 o.st, .int .i64 o.to] 204 (0, 0)) ∧ u.heap[w.heap.size + 1]? = some (.cells #[.int .i64 t.rule, .int .i64 t.lev, .int .i64 t.fr, .int .i64 t.to, .int .i64 t.kids] 50 (0, 0))) (two_new w _ _) (fun u hu => ?_)
    obtain ⟨hb0, hx, hy⟩ := hu
    obtain ⟨x0, x1, x2, x3⟩ := four_box hx
    obtain ⟨y0, y1, y2, y3, y4⟩ := five_box hy
    have HX := Lib.hid hx
    have HY := Lib.hid hy
    have HB0 := Lib.hid hb0
    obtain ⟨X, hX⟩ : ∃ X, X = w.heap.size := ⟨_, rfl⟩
    rw [← hX] at x0 x1 x2 x3 y0 y1 y2 y3 y4 HX HY ⊢
    have HXe := Lib.hid hX
    clear hb0 hx hy hX
    go_wp2
    go_ret
    exact ⟨ret_bool (by rw [← HQ.out]; exact (Bool.eq_false_iff.2 (fun h => by have := (fin.out.1 h).2.1; omega)).symm), HB0.out⟩
  by_cases h2 : t.lev ≤ 99
  rotate_left
  · go_enter Tryz.func116, Tryz.ntmps116
    go_upto_region 1 with (fail)
    refine gen_world (S := fun u => Below w.heap.size w u ∧ u.heap[w.heap.size]? = some (.cells #[.int .i64 o.left, .int .i64 o.sf, .int .i64 o.st, .int .i64 o.to] 204 (0, 0)) ∧ u.heap[w.heap.size + 1]? = some (.cells #[.int .i64 t.rule, .int .i64 t.lev, .int .i64 t.fr, .int .i64 t.to, .int .i64 t.kids] 50 (0, 0))) (two_new w _ _) (fun u hu => ?_)
    obtain ⟨hb0, hx, hy⟩ := hu
    obtain ⟨x0, x1, x2, x3⟩ := four_box hx
    obtain ⟨y0, y1, y2, y3, y4⟩ := five_box hy
    have HX := Lib.hid hx
    have HY := Lib.hid hy
    have HB0 := Lib.hid hb0
    obtain ⟨X, hX⟩ : ∃ X, X = w.heap.size := ⟨_, rfl⟩
    rw [← hX] at x0 x1 x2 x3 y0 y1 y2 y3 y4 HX HY ⊢
    have HXe := Lib.hid hX
    clear hb0 hx hy hX
    go_wp2
    go_ret
    exact ⟨ret_bool (by rw [← HQ.out]; exact (Bool.eq_false_iff.2 (fun h => by have := (fin.out.1 h).2.2.1; omega)).symm), HB0.out⟩
  by_cases h3 : 0 ≤ t.kids
  rotate_left
  · go_enter Tryz.func116, Tryz.ntmps116
    go_upto_region 1 with (fail)
    refine gen_world (S := fun u => Below w.heap.size w u ∧ u.heap[w.heap.size]? = some (.cells #[.int .i64 o.left, .int .i64 o.sf, .int .i64 o.st, .int .i64 o.to] 204 (0, 0)) ∧ u.heap[w.heap.size + 1]? = some (.cells #[.int .i64 t.rule, .int .i64 t.lev, .int .i64 t.fr, .int .i64 t.to, .int .i64 t.kids] 50 (0, 0))) (two_new w _ _) (fun u hu => ?_)
    obtain ⟨hb0, hx, hy⟩ := hu
    obtain ⟨x0, x1, x2, x3⟩ := four_box hx
    obtain ⟨y0, y1, y2, y3, y4⟩ := five_box hy
    have HX := Lib.hid hx
    have HY := Lib.hid hy
    have HB0 := Lib.hid hb0
    obtain ⟨X, hX⟩ : ∃ X, X = w.heap.size := ⟨_, rfl⟩
    rw [← hX] at x0 x1 x2 x3 y0 y1 y2 y3 y4 HX HY ⊢
    have HXe := Lib.hid hX
    clear hb0 hx hy hX
    go_wp2
    go_ret
    exact ⟨ret_bool (by rw [← HQ.out]; exact (Bool.eq_false_iff.2 (fun h => by have := (fin.out.1 h).2.2.2.1; omega)).symm), HB0.out⟩
  cases hs : srB t.fr t.to
  · rw [hs] at HR fin
    clear hs
    go_enter Tryz.func116, Tryz.ntmps116
    go_upto_region 1 with (fail)
    refine gen_world (S := fun u => Below w.heap.size w u ∧ u.heap[w.heap.size]? = some (.cells #[.int .i64 o.left, .int .i64 o.sf, .int .i64 o.st, .int .i64 o.to] 204 (0, 0)) ∧ u.heap[w.heap.size + 1]? = some (.cells #[.int .i64 t.rule, .int .i64 t.lev, .int .i64 t.fr, .int .i64 t.to, .int .i64 t.kids] 50 (0, 0))) (two_new w _ _) (fun u hu => ?_)
    obtain ⟨hb0, hx, hy⟩ := hu
    obtain ⟨x0, x1, x2, x3⟩ := four_box hx
    obtain ⟨y0, y1, y2, y3, y4⟩ := five_box hy
    have HX := Lib.hid hx
    have HY := Lib.hid hy
    have HB0 := Lib.hid hb0
    obtain ⟨X, hX⟩ : ∃ X, X = w.heap.size := ⟨_, rfl⟩
    rw [← hX] at x0 x1 x2 x3 y0 y1 y2 y3 y4 HX HY ⊢
    have HXe := Lib.hid hX
    clear hb0 hx hy hX
    go_wp2_with fail
    refine (HR.out _).mono ?_
    rintro e w2 ⟨rfl, hb⟩
    have HB2 := Lib.hid ((Below.refl u.heap.size u).trans (hb.mono (Below.refl u.heap.size u).size))
    clear x0 x1 x2 x3 y0 y1 y2 y3 y4
    obtain ⟨x0, x1, x2, x3⟩ := four_box ((HB2.out.block _ (lt_of_block HX.out)).trans HX.out)
    obtain ⟨y0, y1, y2, y3, y4⟩ := five_box ((HB2.out.block _ (lt_of_block HY.out)).trans HY.out)
    clear hb
    go_wp2
    go_ret
    exact ⟨ret_bool (by rw [← HQ.out]; exact (Bool.eq_false_iff.2 (fun h => by have := fin.out.1 h; simp at this)).symm), HB0.out.trans (HB2.out.mono HB0.out.size)⟩
  rw [hs] at HR fin
  clear hs
  cases hs : siB t.fr t.to o.sf o.st
  · rw [hs] at HI fin
    clear hs
    go_enter Tryz.func116, Tryz.ntmps116
    go_upto_region 1 with (fail)
    refine gen_world (S := fun u => Below w.heap.size w u ∧ u.heap[w.heap.size]? = some (.cells #[.int .i64 o.left, .int .i64 o.sf, .int .i64 o.st, .int .i64 o.to] 204 (0, 0)) ∧ u.heap[w.heap.size + 1]? = some (.cells #[.int .i64 t.rule, .int .i64 t.lev, .int .i64 t.fr, .int .i64 t.to, .int .i64 t.kids] 50 (0, 0))) (two_new w _ _) (fun u hu => ?_)
    obtain ⟨hb0, hx, hy⟩ := hu
    obtain ⟨x0, x1, x2, x3⟩ := four_box hx
    obtain ⟨y0, y1, y2, y3, y4⟩ := five_box hy
    have HX := Lib.hid hx
    have HY := Lib.hid hy
    have HB0 := Lib.hid hb0
    obtain ⟨X, hX⟩ : ∃ X, X = w.heap.size := ⟨_, rfl⟩
    rw [← hX] at x0 x1 x2 x3 y0 y1 y2 y3 y4 HX HY ⊢
    have HXe := Lib.hid hX
    clear hb0 hx hy hX
    go_wp2_with fail
    refine (HR.out _).mono ?_
    rintro e w2 ⟨rfl, hb⟩
    have HB2 := Lib.hid ((Below.refl u.heap.size u).trans (hb.mono (Below.refl u.heap.size u).size))
    clear x0 x1 x2 x3 y0 y1 y2 y3 y4
    obtain ⟨x0, x1, x2, x3⟩ := four_box ((HB2.out.block _ (lt_of_block HX.out)).trans HX.out)
    obtain ⟨y0, y1, y2, y3, y4⟩ := five_box ((HB2.out.block _ (lt_of_block HY.out)).trans HY.out)
    clear hb
    go_wp2_with fail
    refine (HI.out _).mono ?_
    rintro e w3 ⟨rfl, hb⟩
    have HB3 := Lib.hid (HB2.out.trans (hb.mono HB2.out.size))
    clear x0 x1 x2 x3 y0 y1 y2 y3 y4
    obtain ⟨x0, x1, x2, x3⟩ := four_box ((HB3.out.block _ (lt_of_block HX.out)).trans HX.out)
    obtain ⟨y0, y1, y2, y3, y4⟩ := five_box ((HB3.out.block _ (lt_of_block HY.out)).trans HY.out)
    clear hb
    go_wp2
    go_ret
    exact ⟨ret_bool (by rw [← HQ.out]; exact (Bool.eq_false_iff.2 (fun h => by have := fin.out.1 h; simp at this)).symm), HB0.out.trans (HB3.out.mono HB0.out.size)⟩
  rw [hs] at HI fin
  clear hs
  have fin2 : Hid (takesB o t = decide (o.to ≤ t.fr)) := Lib.hid (by rw [Bool.eq_iff_iff, fin.out]; simp [h0, h1, h2, h3])
  go_enter Tryz.func116, Tryz.ntmps116
  go_upto_region 1 with (fail)
  refine gen_world (S := fun u => Below w.heap.size w u ∧ u.heap[w.heap.size]? = some (.cells #[.int .i64 o.left, .int .i64 o.sf, .int .i64 o.st, .int .i64 o.to] 204 (0, 0)) ∧ u.heap[w.heap.size + 1]? = some (.cells #[.int .i64 t.rule, .int .i64 t.lev, .int .i64 t.fr, .int .i64 t.to, .int .i64 t.kids] 50 (0, 0))) (two_new w _ _) (fun u hu => ?_)
  obtain ⟨hb0, hx, hy⟩ := hu
  obtain ⟨x0, x1, x2, x3⟩ := four_box hx
  obtain ⟨y0, y1, y2, y3, y4⟩ := five_box hy
  have HX := Lib.hid hx
  have HY := Lib.hid hy
  have HB0 := Lib.hid hb0
  obtain ⟨X, hX⟩ : ∃ X, X = w.heap.size := ⟨_, rfl⟩
  rw [← hX] at x0 x1 x2 x3 y0 y1 y2 y3 y4 HX HY ⊢
  have HXe := Lib.hid hX
  clear hb0 hx hy hX
  go_wp2_with fail
  refine (HR.out _).mono ?_
  rintro e w2 ⟨rfl, hb⟩
  have HB2 := Lib.hid ((Below.refl u.heap.size u).trans (hb.mono (Below.refl u.heap.size u).size))
  clear x0 x1 x2 x3 y0 y1 y2 y3 y4
  obtain ⟨x0, x1, x2, x3⟩ := four_box ((HB2.out.block _ (lt_of_block HX.out)).trans HX.out)
  obtain ⟨y0, y1, y2, y3, y4⟩ := five_box ((HB2.out.block _ (lt_of_block HY.out)).trans HY.out)
  clear hb
  go_wp2_with fail
  refine (HI.out _).mono ?_
  rintro e w3 ⟨rfl, hb⟩
  have HB3 := Lib.hid (HB2.out.trans (hb.mono HB2.out.size))
  clear x0 x1 x2 x3 y0 y1 y2 y3 y4
  obtain ⟨x0, x1, x2, x3⟩ := four_box ((HB3.out.block _ (lt_of_block HX.out)).trans HX.out)
  obtain ⟨y0, y1, y2, y3, y4⟩ := five_box ((HB3.out.block _ (lt_of_block HY.out)).trans HY.out)
  clear hb
  go_wp2
  go_ret
  refine ⟨ret_bool ?_, HB0.out.trans (HB3.out.mono HB0.out.size)⟩
  rw [← HQ.out]
  exact fin2.out.symm
end Go.Proofs.YtkimkghldilliaaGreat
