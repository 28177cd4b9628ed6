/-
  gram: the shapes of nodes.
-/
import Derived.Test.YtkimkghldilliaaGreatGrB
import Derived.Test.YtkimkghldilliaaGreatStC
namespace Go.Proofs.YtkimkghldilliaaGreat
open Go.RowKit Go.Lib

/-- a node whose kids' slice is one. -/
structure NdV (x : Nd) : Prop where
  kv : ∃ ao cap, x.kv = .slice ao x.kids.length cap
  small : x.text.size ≤ maxLen
  few : x.kids.length ≤ maxLen
theorem ten_box {w : World} {b : Nat} {x0 x1 x2 x3 x4 x5 x6 x7 x8 x9 : Value} {t : TypeId} (h : w.heap[b]? = some (.cells #[x0, x1, x2, x3, x4, x5, x6, x7, x8, x9] t (0, 0))) : w.cell? ⟨b, 0, none⟩ = some x0 ∧ w.cell? ⟨b, 1, none⟩ = some x1 ∧ w.cell? ⟨b, 2, none⟩ = some x2 ∧ w.cell? ⟨b, 3, none⟩ = some x3 ∧ w.cell? ⟨b, 4, none⟩ = some x4 ∧ w.cell? ⟨b, 5, none⟩ = some x5 ∧ w.cell? ⟨b, 6, none⟩ = some x6 ∧ w.cell? ⟨b, 7, none⟩ = some x7 ∧ w.cell? ⟨b, 8, none⟩ = some x8 ∧ w.cell? ⟨b, 9, none⟩ = some x9 :=
  ⟨(block_cell' h 0).1, (block_cell' h 1).1, (block_cell' h 2).1, (block_cell' h 3).1, (block_cell' h 4).1, (block_cell' h 5).1, (block_cell' h 6).1, (block_cell' h 7).1, (block_cell' h 8).1, (block_cell' h 9).1⟩
theorem ndBare_eq (x : Nd) : ndBare x = (ndPlain x && x.kids.length == 0) := rfl
theorem ndOne_eq (x : Nd) : ndOne x = (ndPlain x && x.kids.length == 1) := rfl
theorem ndMany_eq (x : Nd) : ndMany x = (ndPlain x && (decide (2 ≤ x.kids.length) && decide (x.kids.length ≤ 64))) := by unfold ndMany; rw [Bool.and_assoc]
set_option maxRecDepth 100000 in
set_option maxHeartbeats 2000000 in
theorem bare_any (x : Nd) (r : Int) (w : World) (hx : NdV x) : Calls Tryz.prog 149 #[shv x r] w fun e w' => e = .returned (.bool (ndBare x)) ∧ Below w.heap.size w w' := by
  have HP := Lib.hid (fun wq => plain_any x r wq)
  rw [ndBare_eq]
  obtain ⟨ao, cap, hv⟩ := hx.kv
  have hsm := hx.few
  obtain ⟨kind, c0, c1, c2, c3, text, rule, level, kids, kv⟩ := x
  simp only at hv hsm
  subst hv
  obtain ⟨b, hb⟩ : ∃ b, b = ndPlain ⟨kind, c0, c1, c2, c3, text, rule, level, kids, .slice ao kids.length cap⟩ := ⟨_, rfl⟩
  rw [← hb] at HP ⊢
  unfold shv at HP ⊢
  simp only at HP ⊢
  clear hb hx
  obtain ⟨n, hn⟩ : ∃ n, n = kids.length := ⟨_, rfl⟩
  rw [← hn] at hsm ⊢
  rw [← hn] at HP
  clear hn
  have key : ∀ q : Bool, (b && n == 0) = q → Calls Tryz.prog 149 #[.agg #[.int .i64 kind, .int .u64 c0, .int .u64 c1, .int .u64 c2, .int .u64 c3, .string text, .int .i64 rule, .int .i64 level, .slice ao n cap, .int .i64 r]] w fun e w' => e = .returned (.bool q) ∧ Below w.heap.size w w' := by
    intro q hq
    go_enter Tryz.func149, Tryz.ntmps149
    go_upto_region 1 with (fail)
    refine gen_world (S := fun u => Below w.heap.size w u ∧ u.heap[w.heap.size]? = some (.cells #[.int .i64 kind, .int .u64 c0, .int .u64 c1, .int .u64 c2, .int .u64 c3, .string text, .int .i64 rule, .int .i64 level, .slice ao n cap, .int .i64 r] 215 (0, 0))) (one_new w _) (fun u hu => ?_)
    obtain ⟨hb, h1⟩ := hu
    have HB := Lib.hid hb
    have H1 := Lib.hid h1
    obtain ⟨X, hX⟩ : ∃ X, X = w.heap.size := ⟨_, rfl⟩
    rw [← hX] at H1 ⊢
    obtain ⟨v0, v1, v2, v3, v4, v5, v6, v7, v8, v9⟩ := ten_box H1.out
    have HX := Lib.hid hX
    clear hb h1 hX
    go_wp2_with fail
    refine (HP.out _).mono ?_
    rintro e w1 ⟨rfl, hb⟩
    have HB1 := Lib.hid hb
    clear hb v0 v1 v2 v3 v4 v5 v6 v7 v8 v9
    have h2 := (HB1.out.block _ (lt_of_block H1.out)).trans H1.out
    obtain ⟨v0, v1, v2, v3, v4, v5, v6, v7, v8, v9⟩ := ten_box h2
    clear h2
    have hq' := Lib.hid hq
    clear hq
    cases b
    · go_wp2
      go_ret
      exact ⟨ret_bool (by rw [← hq'.out]; simp), HX.out ▸ HB.out.trans (HB1.out.mono HB.out.size)⟩
    · go_wp2
      go_ret
      exact ⟨ret_bool (by rw [← hq'.out]; simp; rw [Bool.eq_iff_iff]; simp; try omega), HX.out ▸ HB.out.trans (HB1.out.mono HB.out.size)⟩
  exact key _ rfl
set_option maxRecDepth 100000 in
set_option maxHeartbeats 2000000 in
theorem one_any (x : Nd) (r : Int) (w : World) (hx : NdV x) : Calls Tryz.prog 154 #[shv x r] w fun e w' => e = .returned (.bool (ndOne x)) ∧ Below w.heap.size w w' := by
  have HP := Lib.hid (fun wq => plain_any x r wq)
  rw [ndOne_eq]
  obtain ⟨ao, cap, hv⟩ := hx.kv
  have hsm := hx.few
  obtain ⟨kind, c0, c1, c2, c3, text, rule, level, kids, kv⟩ := x
  simp only at hv hsm
  subst hv
  obtain ⟨b, hb⟩ : ∃ b, b = ndPlain ⟨kind, c0, c1, c2, c3, text, rule, level, kids, .slice ao kids.length cap⟩ := ⟨_, rfl⟩
  rw [← hb] at HP ⊢
  unfold shv at HP ⊢
  simp only at HP ⊢
  clear hb hx
  obtain ⟨n, hn⟩ : ∃ n, n = kids.length := ⟨_, rfl⟩
  rw [← hn] at hsm ⊢
  rw [← hn] at HP
  clear hn
  have key : ∀ q : Bool, (b && n == 1) = q → Calls Tryz.prog 154 #[.agg #[.int .i64 kind, .int .u64 c0, .int .u64 c1, .int .u64 c2, .int .u64 c3, .string text, .int .i64 rule, .int .i64 level, .slice ao n cap, .int .i64 r]] w fun e w' => e = .returned (.bool q) ∧ Below w.heap.size w w' := by
    intro q hq
    go_enter Tryz.func154, Tryz.ntmps154
    go_upto_region 1 with (fail)
    refine gen_world (S := fun u => Below w.heap.size w u ∧ u.heap[w.heap.size]? = some (.cells #[.int .i64 kind, .int .u64 c0, .int .u64 c1, .int .u64 c2, .int .u64 c3, .string text, .int .i64 rule, .int .i64 level, .slice ao n cap, .int .i64 r] 215 (0, 0))) (one_new w _) (fun u hu => ?_)
    obtain ⟨hb, h1⟩ := hu
    have HB := Lib.hid hb
    have H1 := Lib.hid h1
    obtain ⟨X, hX⟩ : ∃ X, X = w.heap.size := ⟨_, rfl⟩
    rw [← hX] at H1 ⊢
    obtain ⟨v0, v1, v2, v3, v4, v5, v6, v7, v8, v9⟩ := ten_box H1.out
    have HX := Lib.hid hX
    clear hb h1 hX
    go_wp2_with fail
    refine (HP.out _).mono ?_
    rintro e w1 ⟨rfl, hb⟩
    have HB1 := Lib.hid hb
    clear hb v0 v1 v2 v3 v4 v5 v6 v7 v8 v9
    have h2 := (HB1.out.block _ (lt_of_block H1.out)).trans H1.out
    obtain ⟨v0, v1, v2, v3, v4, v5, v6, v7, v8, v9⟩ := ten_box h2
    clear h2
    have hq' := Lib.hid hq
    clear hq
    cases b
    · go_wp2
      go_ret
      exact ⟨ret_bool (by rw [← hq'.out]; simp), HX.out ▸ HB.out.trans (HB1.out.mono HB.out.size)⟩
    · go_wp2
      go_ret
      exact ⟨ret_bool (by rw [← hq'.out]; simp; rw [Bool.eq_iff_iff]; simp; try omega), HX.out ▸ HB.out.trans (HB1.out.mono HB.out.size)⟩
  exact key _ rfl
set_option maxRecDepth 100000 in
set_option maxHeartbeats 2000000 in
theorem many_any (x : Nd) (r : Int) (w : World) (hx : NdV x) : Calls Tryz.prog 153 #[shv x r] w fun e w' => e = .returned (.bool (ndMany x)) ∧ Below w.heap.size w w' := by
  have HP := Lib.hid (fun wq => plain_any x r wq)
  rw [ndMany_eq]
  obtain ⟨ao, cap, hv⟩ := hx.kv
  have hsm := hx.few
  obtain ⟨kind, c0, c1, c2, c3, text, rule, level, kids, kv⟩ := x
  simp only at hv hsm
  subst hv
  obtain ⟨b, hb⟩ : ∃ b, b = ndPlain ⟨kind, c0, c1, c2, c3, text, rule, level, kids, .slice ao kids.length cap⟩ := ⟨_, rfl⟩
  rw [← hb] at HP ⊢
  unfold shv at HP ⊢
  simp only at HP ⊢
  clear hb hx
  obtain ⟨n, hn⟩ : ∃ n, n = kids.length := ⟨_, rfl⟩
  rw [← hn] at hsm ⊢
  rw [← hn] at HP
  clear hn
  have key : ∀ q : Bool, (b && (decide (2 ≤ n) && decide (n ≤ 64))) = q → Calls Tryz.prog 153 #[.agg #[.int .i64 kind, .int .u64 c0, .int .u64 c1, .int .u64 c2, .int .u64 c3, .string text, .int .i64 rule, .int .i64 level, .slice ao n cap, .int .i64 r]] w fun e w' => e = .returned (.bool q) ∧ Below w.heap.size w w' := by
    intro q hq
    go_enter Tryz.func153, Tryz.ntmps153
    go_upto_region 1 with (fail)
    refine gen_world (S := fun u => Below w.heap.size w u ∧ u.heap[w.heap.size]? = some (.cells #[.int .i64 kind, .int .u64 c0, .int .u64 c1, .int .u64 c2, .int .u64 c3, .string text, .int .i64 rule, .int .i64 level, .slice ao n cap, .int .i64 r] 215 (0, 0))) (one_new w _) (fun u hu => ?_)
    obtain ⟨hb, h1⟩ := hu
    have HB := Lib.hid hb
    have H1 := Lib.hid h1
    obtain ⟨X, hX⟩ : ∃ X, X = w.heap.size := ⟨_, rfl⟩
    rw [← hX] at H1 ⊢
    obtain ⟨v0, v1, v2, v3, v4, v5, v6, v7, v8, v9⟩ := ten_box H1.out
    have HX := Lib.hid hX
    clear hb h1 hX
    go_wp2_with fail
    refine (HP.out _).mono ?_
    rintro e w1 ⟨rfl, hb⟩
    have HB1 := Lib.hid hb
    clear hb v0 v1 v2 v3 v4 v5 v6 v7 v8 v9
    have h2 := (HB1.out.block _ (lt_of_block H1.out)).trans H1.out
    obtain ⟨v0, v1, v2, v3, v4, v5, v6, v7, v8, v9⟩ := ten_box h2
    clear h2
    have hq' := Lib.hid hq
    clear hq
    cases b
    · go_wp2
      go_ret
      exact ⟨ret_bool (by rw [← hq'.out]; simp), HX.out ▸ HB.out.trans (HB1.out.mono HB.out.size)⟩
    · by_cases h2 : 2 ≤ n
      · have d1 : decide ((2 : Int) ≤ (n : Int)) = true := by simpa using (by omega : (2 : Int) ≤ n)
        have d2 : decide (2 ≤ n) = true := by simpa using h2
        have H2 := Lib.hid h2
        clear h2
        go_wp2
        go_ret
        exact ⟨ret_bool (by rw [← hq'.out]; simp [H2.out]; omega), HX.out ▸ HB.out.trans (HB1.out.mono HB.out.size)⟩
      · have d1 : decide ((2 : Int) ≤ (n : Int)) = false := by simpa using (by omega : ¬ (2 : Int) ≤ n)
        have d2 : decide (2 ≤ n) = false := by simpa using h2
        have H2 := Lib.hid h2
        clear h2
        go_wp2
        go_ret
        exact ⟨ret_bool (by rw [← hq'.out]; simp [H2.out]), HX.out ▸ HB.out.trans (HB1.out.mono HB.out.size)⟩
  exact key _ rfl
theorem ten_set {w : World} {b : Nat} {x0 x1 x2 x3 x4 x5 x6 x7 x8 x9 : Value} {t : TypeId} (h : w.heap[b]? = some (.cells #[x0, x1, x2, x3, x4, x5, x6, x7, x8, x9] t (0, 0))) (u : Value) : (w.setCell ⟨b, 5, none⟩ u).heap[b]? = some (.cells #[x0, x1, x2, x3, x4, u, x6, x7, x8, x9] t (0, 0)) ∧ (w.setCell ⟨b, 6, none⟩ u).heap[b]? = some (.cells #[x0, x1, x2, x3, x4, x5, u, x7, x8, x9] t (0, 0)) ∧ (w.setCell ⟨b, 7, none⟩ u).heap[b]? = some (.cells #[x0, x1, x2, x3, x4, x5, x6, u, x8, x9] t (0, 0)) :=
  ⟨block_setCell' h, block_setCell' h, block_setCell' h⟩
theorem ndText_eq (x : Nd) : ndText x = ((decide (0 < x.text.size) && decide (x.text.size ≤ 64)) && ndBare { x with text := ⟨#[]⟩ }) := rfl
set_option maxRecDepth 100000 in
set_option maxHeartbeats 2000000 in
theorem text_any (x : Nd) (r : Int) (w : World) (hx : NdV x) : Calls Tryz.prog 151 #[shv x r] w fun e w' => e = .returned (.bool (ndText x)) ∧ Below w.heap.size w w' := by
  rw [ndText_eq]
  have HP := Lib.hid (fun wq => bare_any { x with text := ⟨#[]⟩ } r wq ⟨hx.kv, Nat.zero_le _, hx.few⟩)
  have htm := hx.small
  obtain ⟨ao, cap, hv⟩ := hx.kv
  have hsm := hx.few
  obtain ⟨kind, c0, c1, c2, c3, text, rule, level, kids, kv⟩ := x
  simp only at hv hsm
  subst hv
  simp only at HP htm ⊢
  obtain ⟨b, hb⟩ : ∃ b, b = ndBare ⟨kind, c0, c1, c2, c3, ⟨#[]⟩, rule, level, kids, .slice ao kids.length cap⟩ := ⟨_, rfl⟩
  rw [← hb] at HP ⊢
  unfold shv at HP ⊢
  simp only at HP ⊢
  clear hb hx
  obtain ⟨n, hn⟩ : ∃ n, n = kids.length := ⟨_, rfl⟩
  rw [← hn] at hsm ⊢
  rw [← hn] at HP
  clear hn
  obtain ⟨tz, hz⟩ : ∃ tz, tz = text.size := ⟨_, rfl⟩
  have key : ∀ q : Bool, ((decide (0 < text.size) && decide (text.size ≤ 64)) && b) = q → Calls Tryz.prog 151 #[.agg #[.int .i64 kind, .int .u64 c0, .int .u64 c1, .int .u64 c2, .int .u64 c3, .string text, .int .i64 rule, .int .i64 level, .slice ao n cap, .int .i64 r]] w fun e w' => e = .returned (.bool q) ∧ Below w.heap.size w w' := by
    intro q hq
    have hq' := Lib.hid hq
    clear hq
    go_enter Tryz.func151, Tryz.ntmps151
    go_upto_region 1 with (fail)
    refine gen_world (S := fun u => Below w.heap.size w u ∧ u.heap[w.heap.size]? = some (.cells #[.int .i64 kind, .int .u64 c0, .int .u64 c1, .int .u64 c2, .int .u64 c3, .string text, .int .i64 rule, .int .i64 level, .slice ao n cap, .int .i64 r] 215 (0, 0))) (one_new w _) (fun u hu => ?_)
    obtain ⟨hb, h1⟩ := hu
    have HB := Lib.hid hb
    have H1 := Lib.hid h1
    obtain ⟨X, hX⟩ : ∃ X, X = w.heap.size := ⟨_, rfl⟩
    rw [← hX] at H1 ⊢
    obtain ⟨v0, v1, v2, v3, v4, v5, v6, v7, v8, v9⟩ := ten_box H1.out
    have HX := Lib.hid hX
    clear hb h1 hX
    rw [← hz] at htm hq'
    have f5 := (block_cell' H1.out 5).2
    go_upto_region 2 with (fail)
    rw [← hz]
    have HZ := Lib.hid hz
    clear hz
    go_upto_region 3 with (fail)
    have hb2 : Below w.heap.size w (u.setCell ⟨X, 5, none⟩ (.string ⟨#[]⟩)) := HB.out.setCell (p := ⟨X, 5, none⟩) (Nat.le_of_eq HX.out.symm) _
    refine gen_world (S := fun v => Below w.heap.size w v ∧ v.heap[X]? = some (.cells #[.int .i64 kind, .int .u64 c0, .int .u64 c1, .int .u64 c2, .int .u64 c3, .string ⟨#[]⟩, .int .i64 rule, .int .i64 level, .slice ao n cap, .int .i64 r] 215 (0, 0))) ⟨hb2, (ten_set H1.out _).1⟩ (fun v hv => ?_)
    obtain ⟨hb2, h2⟩ := hv
    clear v0 v1 v2 v3 v4 v5 v6 v7 v8 v9 f5
    obtain ⟨v0, v1, v2, v3, v4, v5, v6, v7, v8, v9⟩ := ten_box h2
    have HB2 := Lib.hid hb2
    have H2 := Lib.hid h2
    clear hb2 h2
    by_cases hp : 0 < tz
    · have d0 : decide ((0 : Int) < (tz : Int)) = true := by simpa using hp
      have d1 : decide (0 < tz) = true := by simpa using hp
      have Hp := Lib.hid hp
      clear hp
      by_cases hp2 : tz ≤ 64
      · have e0 : decide ((tz : Int) ≤ (64 : Int)) = true := by simpa using (by omega : (tz : Int) ≤ 64)
        have e1 : decide (tz ≤ 64) = true := by simpa using hp2
        have Hp2 := Lib.hid hp2
        clear hp2
        go_wp2_with fail
        refine (HP.out _).mono ?_
        rintro e w1 ⟨rfl, hb⟩
        have HB1 := Lib.hid hb
        clear hb v0 v1 v2 v3 v4 v5 v6 v7 v8 v9
        go_wp2
        go_ret
        exact ⟨ret_bool (by rw [← hq'.out]; simp [Hp.out, Hp2.out]), HX.out ▸ HB2.out.trans (HB1.out.mono HB2.out.size)⟩
      · have e0 : decide ((tz : Int) ≤ (64 : Int)) = false := by simpa using (by omega : ¬ (tz : Int) ≤ 64)
        have e1 : decide (tz ≤ 64) = false := by simpa using hp2
        have Hp2 := Lib.hid hp2
        clear hp2
        go_wp2
        all_goals go_ret
        all_goals exact ⟨ret_bool (by rw [← hq'.out]; simp [Hp2.out]), HX.out ▸ HB2.out⟩
    · have d0 : decide ((0 : Int) < (tz : Int)) = false := by simpa using (by omega : ¬ (0 : Int) < tz)
      have d1 : decide (0 < tz) = false := by simpa using hp
      have Hp := Lib.hid hp
      clear hp
      go_wp2
      all_goals go_ret
      all_goals exact ⟨ret_bool (by rw [← hq'.out]; simp [Hp.out]), HX.out ▸ HB2.out⟩
  exact key _ rfl
theorem ndCall_eq (r : Nat) (x : Nd) : ndCall r x = ((decide (0 ≤ x.rule) && decide (x.rule < r) && decide (0 ≤ x.level) && decide (x.level ≤ 99)) && ndBare { x with rule := 0, level := 0 }) := rfl
set_option maxRecDepth 100000 in
set_option maxHeartbeats 2000000 in
theorem call_any (x : Nd) (r : Nat) (w : World) (hx : NdV x) : Calls Tryz.prog 152 #[shv x r] w fun e w' => e = .returned (.bool (ndCall r x)) ∧ Below w.heap.size w w' := by
  rw [ndCall_eq]
  have HP := Lib.hid (fun wq => bare_any { x with rule := 0, level := 0 } r wq ⟨hx.kv, hx.small, hx.few⟩)
  obtain ⟨ao, cap, hv⟩ := hx.kv
  have hsm := hx.few
  obtain ⟨kind, c0, c1, c2, c3, text, rule, level, kids, kv⟩ := x
  simp only at hv hsm
  subst hv
  simp only at HP ⊢
  obtain ⟨b, hb⟩ : ∃ b, b = ndBare ⟨kind, c0, c1, c2, c3, text, 0, 0, kids, .slice ao kids.length cap⟩ := ⟨_, rfl⟩
  rw [← hb] at HP ⊢
  unfold shv at HP ⊢
  simp only at HP ⊢
  clear hb hx
  obtain ⟨n, hn⟩ : ∃ n, n = kids.length := ⟨_, rfl⟩
  rw [← hn] at hsm ⊢
  rw [← hn] at HP
  clear hn
  have key : ∀ q : Bool, ((decide (0 ≤ rule) && decide (rule < r) && decide (0 ≤ level) && decide (level ≤ 99)) && b) = q → Calls Tryz.prog 152 #[.agg #[.int .i64 kind, .int .u64 c0, .int .u64 c1, .int .u64 c2, .int .u64 c3, .string text, .int .i64 rule, .int .i64 level, .slice ao n cap, .int .i64 r]] w fun e w' => e = .returned (.bool q) ∧ Below w.heap.size w w' := by
    intro q hq
    have hq' := Lib.hid hq
    clear hq
    go_enter Tryz.func152, Tryz.ntmps152
    go_upto_region 1 with (fail)
    refine gen_world (S := fun u => Below w.heap.size w u ∧ u.heap[w.heap.size]? = some (.cells #[.int .i64 kind, .int .u64 c0, .int .u64 c1, .int .u64 c2, .int .u64 c3, .string text, .int .i64 rule, .int .i64 level, .slice ao n cap, .int .i64 r] 215 (0, 0))) (one_new w _) (fun u hu => ?_)
    obtain ⟨hb, h1⟩ := hu
    have HB := Lib.hid hb
    have H1 := Lib.hid h1
    obtain ⟨X, hX⟩ : ∃ X, X = w.heap.size := ⟨_, rfl⟩
    rw [← hX] at H1 ⊢
    obtain ⟨v0, v1, v2, v3, v4, v5, v6, v7, v8, v9⟩ := ten_box H1.out
    have HX := Lib.hid hX
    clear hb h1 hX
    have f6 := (block_cell' H1.out 6).2
    have f7 := (block_cell' H1.out 7).2
    have close : ∀ p : Bool, p = (decide (0 ≤ rule) && decide (rule < r) && decide (0 ≤ level) && decide (level ≤ 99)) → True := fun _ _ => trivial
    clear close
    by_cases h0 : 0 ≤ rule
    case neg =>
      have d0 : decide (0 ≤ rule) = false := by simpa using h0
      have D0 := Lib.hid d0
      clear h0
      go_upto_region 3 with (fail)
      have hb2 : Below w.heap.size w ((u.setCell ⟨X, 6, none⟩ (.int .i64 0)).setCell ⟨X, 7, none⟩ (.int .i64 0)) := (HB.out.setCell (p := ⟨X, 6, none⟩) (Nat.le_of_eq HX.out.symm) _).setCell (p := ⟨X, 7, none⟩) (Nat.le_of_eq HX.out.symm) _
      refine gen_world (S := fun v => Below w.heap.size w v ∧ v.heap[X]? = some (.cells #[.int .i64 kind, .int .u64 c0, .int .u64 c1, .int .u64 c2, .int .u64 c3, .string text, .int .i64 0, .int .i64 0, .slice ao n cap, .int .i64 r] 215 (0, 0))) ⟨hb2, (ten_set (ten_set H1.out _).2.1 _).2.2⟩ (fun v hv => ?_)
      obtain ⟨hb2, h2⟩ := hv
      clear v0 v1 v2 v3 v4 v5 v6 v7 v8 v9 f6 f7
      obtain ⟨v0, v1, v2, v3, v4, v5, v6, v7, v8, v9⟩ := ten_box h2
      have HB2 := Lib.hid hb2
      have H2 := Lib.hid h2
      clear hb2 h2
      go_wp2
      go_ret
      exact ⟨ret_bool (by rw [← hq'.out]; simp [D0.out]), HX.out ▸ HB2.out⟩
    case pos =>
      have d0 : decide (0 ≤ rule) = true := by simpa using h0
      have D0 := Lib.hid d0
      clear h0
      by_cases h1 : rule < (r : Int)
      case neg =>
        have d1 : decide (rule < (r : Int)) = false := by simpa using h1
        have D1 := Lib.hid d1
        clear h1
        go_upto_region 3 with (fail)
        have hb2 : Below w.heap.size w ((u.setCell ⟨X, 6, none⟩ (.int .i64 0)).setCell ⟨X, 7, none⟩ (.int .i64 0)) := (HB.out.setCell (p := ⟨X, 6, none⟩) (Nat.le_of_eq HX.out.symm) _).setCell (p := ⟨X, 7, none⟩) (Nat.le_of_eq HX.out.symm) _
        refine gen_world (S := fun v => Below w.heap.size w v ∧ v.heap[X]? = some (.cells #[.int .i64 kind, .int .u64 c0, .int .u64 c1, .int .u64 c2, .int .u64 c3, .string text, .int .i64 0, .int .i64 0, .slice ao n cap, .int .i64 r] 215 (0, 0))) ⟨hb2, (ten_set (ten_set H1.out _).2.1 _).2.2⟩ (fun v hv => ?_)
        obtain ⟨hb2, h2⟩ := hv
        clear v0 v1 v2 v3 v4 v5 v6 v7 v8 v9 f6 f7
        obtain ⟨v0, v1, v2, v3, v4, v5, v6, v7, v8, v9⟩ := ten_box h2
        have HB2 := Lib.hid hb2
        have H2 := Lib.hid h2
        clear hb2 h2
        go_wp2
        go_ret
        exact ⟨ret_bool (by rw [← hq'.out]; simp [D0.out, D1.out]), HX.out ▸ HB2.out⟩
      case pos =>
        have d1 : decide (rule < (r : Int)) = true := by simpa using h1
        have D1 := Lib.hid d1
        clear h1
        by_cases h2 : 0 ≤ level
        case neg =>
          have d2 : decide (0 ≤ level) = false := by simpa using h2
          have D2 := Lib.hid d2
          clear h2
          go_upto_region 3 with (fail)
          have hb2 : Below w.heap.size w ((u.setCell ⟨X, 6, none⟩ (.int .i64 0)).setCell ⟨X, 7, none⟩ (.int .i64 0)) := (HB.out.setCell (p := ⟨X, 6, none⟩) (Nat.le_of_eq HX.out.symm) _).setCell (p := ⟨X, 7, none⟩) (Nat.le_of_eq HX.out.symm) _
          refine gen_world (S := fun v => Below w.heap.size w v ∧ v.heap[X]? = some (.cells #[.int .i64 kind, .int .u64 c0, .int .u64 c1, .int .u64 c2, .int .u64 c3, .string text, .int .i64 0, .int .i64 0, .slice ao n cap, .int .i64 r] 215 (0, 0))) ⟨hb2, (ten_set (ten_set H1.out _).2.1 _).2.2⟩ (fun v hv => ?_)
          obtain ⟨hb2, h2⟩ := hv
          clear v0 v1 v2 v3 v4 v5 v6 v7 v8 v9 f6 f7
          obtain ⟨v0, v1, v2, v3, v4, v5, v6, v7, v8, v9⟩ := ten_box h2
          have HB2 := Lib.hid hb2
          have H2 := Lib.hid h2
          clear hb2 h2
          go_wp2
          go_ret
          exact ⟨ret_bool (by rw [← hq'.out]; simp [D0.out, D1.out, D2.out]), HX.out ▸ HB2.out⟩
        case pos =>
          have d2 : decide (0 ≤ level) = true := by simpa using h2
          have D2 := Lib.hid d2
          clear h2
          by_cases h3 : level ≤ 99
          case neg =>
            have d3 : decide (level ≤ 99) = false := by simpa using h3
            have D3 := Lib.hid d3
            clear h3
            go_upto_region 3 with (fail)
            have hb2 : Below w.heap.size w ((u.setCell ⟨X, 6, none⟩ (.int .i64 0)).setCell ⟨X, 7, none⟩ (.int .i64 0)) := (HB.out.setCell (p := ⟨X, 6, none⟩) (Nat.le_of_eq HX.out.symm) _).setCell (p := ⟨X, 7, none⟩) (Nat.le_of_eq HX.out.symm) _
            refine gen_world (S := fun v => Below w.heap.size w v ∧ v.heap[X]? = some (.cells #[.int .i64 kind, .int .u64 c0, .int .u64 c1, .int .u64 c2, .int .u64 c3, .string text, .int .i64 0, .int .i64 0, .slice ao n cap, .int .i64 r] 215 (0, 0))) ⟨hb2, (ten_set (ten_set H1.out _).2.1 _).2.2⟩ (fun v hv => ?_)
            obtain ⟨hb2, h2⟩ := hv
            clear v0 v1 v2 v3 v4 v5 v6 v7 v8 v9 f6 f7
            obtain ⟨v0, v1, v2, v3, v4, v5, v6, v7, v8, v9⟩ := ten_box h2
            have HB2 := Lib.hid hb2
            have H2 := Lib.hid h2
            clear hb2 h2
            go_wp2
            go_ret
            exact ⟨ret_bool (by rw [← hq'.out]; simp [D0.out, D1.out, D2.out, D3.out]), HX.out ▸ HB2.out⟩
          case pos =>
            have d3 : decide (level ≤ 99) = true := by simpa using h3
            have D3 := Lib.hid d3
            clear h3
            go_upto_region 3 with (fail)
            have hb2 : Below w.heap.size w ((u.setCell ⟨X, 6, none⟩ (.int .i64 0)).setCell ⟨X, 7, none⟩ (.int .i64 0)) := (HB.out.setCell (p := ⟨X, 6, none⟩) (Nat.le_of_eq HX.out.symm) _).setCell (p := ⟨X, 7, none⟩) (Nat.le_of_eq HX.out.symm) _
            refine gen_world (S := fun v => Below w.heap.size w v ∧ v.heap[X]? = some (.cells #[.int .i64 kind, .int .u64 c0, .int .u64 c1, .int .u64 c2, .int .u64 c3, .string text, .int .i64 0, .int .i64 0, .slice ao n cap, .int .i64 r] 215 (0, 0))) ⟨hb2, (ten_set (ten_set H1.out _).2.1 _).2.2⟩ (fun v hv => ?_)
            obtain ⟨hb2, h2⟩ := hv
            clear v0 v1 v2 v3 v4 v5 v6 v7 v8 v9 f6 f7
            obtain ⟨v0, v1, v2, v3, v4, v5, v6, v7, v8, v9⟩ := ten_box h2
            have HB2 := Lib.hid hb2
            have H2 := Lib.hid h2
            clear hb2 h2
            go_wp2_with fail
            refine (HP.out _).mono ?_
            rintro e w1 ⟨rfl, hb⟩
            have HB1 := Lib.hid hb
            clear hb v0 v1 v2 v3 v4 v5 v6 v7 v8 v9
            go_wp2
            go_ret
            exact ⟨ret_bool (by rw [← hq'.out]; simp [D0.out, D1.out, D2.out, D3.out]), HX.out ▸ HB2.out.trans (HB1.out.mono HB2.out.size)⟩
  exact key _ rfl
theorem ndSet_eq (x : Nd) : ndSet x = (!cl0 x.c0 x.c1 x.c2 x.c3 && ndBare { x with c0 := 0, c1 := 0, c2 := 0, c3 := 0 }) := rfl
set_option maxRecDepth 100000 in
set_option maxHeartbeats 2000000 in
theorem set_any (x : Nd) (r : Int) (w : World) (hx : NdV x) : Calls Tryz.prog 150 #[shv x r] w fun e w' => e = .returned (.bool (ndSet x)) ∧ Below w.heap.size w w' := by
  rw [ndSet_eq]
  have HP := Lib.hid (fun wq => bare_any { x with c0 := 0, c1 := 0, c2 := 0, c3 := 0 } r wq ⟨hx.kv, hx.small, hx.few⟩)
  obtain ⟨ao, cap, hv⟩ := hx.kv
  have hsm := hx.few
  obtain ⟨kind, c0, c1, c2, c3, text, rule, level, kids, kv⟩ := x
  simp only at hv hsm
  subst hv
  simp only at HP ⊢
  obtain ⟨b, hb⟩ : ∃ b, b = ndBare ⟨kind, 0, 0, 0, 0, text, rule, level, kids, .slice ao kids.length cap⟩ := ⟨_, rfl⟩
  rw [← hb] at HP ⊢
  unfold shv at HP ⊢
  simp only at HP ⊢
  clear hb hx
  obtain ⟨n, hn⟩ : ∃ n, n = kids.length := ⟨_, rfl⟩
  rw [← hn] at hsm ⊢
  rw [← hn] at HP
  clear hn
  obtain ⟨d, hd⟩ : ∃ d, d = cl0 c0 c1 c2 c3 := ⟨_, rfl⟩
  have hq2 : ∀ w, (binOp .neq 58 (.agg #[.int .u64 c0, .int .u64 c1, .int .u64 c2, .int .u64 c3]) (.agg #[.int .u64 0, .int .u64 0, .int .u64 0, .int .u64 0])).run Tryz.prog w = .ok (.bool (!d)) w := fun w => by rw [hd]; exact cl_neq w _ _ _ _
  rw [← hd]
  have hg := cl_guard
  clear hd
  have key : ∀ q : Bool, (!d && b) = q → Calls Tryz.prog 150 #[.agg #[.int .i64 kind, .int .u64 c0, .int .u64 c1, .int .u64 c2, .int .u64 c3, .string text, .int .i64 rule, .int .i64 level, .slice ao n cap, .int .i64 r]] w fun e w' => e = .returned (.bool q) ∧ Below w.heap.size w w' := by
    intro q hq
    have hq' := Lib.hid hq
    clear hq
    go_enter Tryz.func150, Tryz.ntmps150
    go_upto_region 1 with (fail)
    refine gen_world (S := fun u => Below w.heap.size w u ∧ u.heap[w.heap.size]? = some (.cells #[.int .i64 kind, .int .u64 c0, .int .u64 c1, .int .u64 c2, .int .u64 c3, .string text, .int .i64 rule, .int .i64 level, .slice ao n cap, .int .i64 r] 215 (0, 0))) (one_new w _) (fun u hu => ?_)
    obtain ⟨hb, h1⟩ := hu
    have HB := Lib.hid hb
    have H1 := Lib.hid h1
    obtain ⟨X, hX⟩ : ∃ X, X = w.heap.size := ⟨_, rfl⟩
    rw [← hX] at H1 ⊢
    obtain ⟨v0, v1, v2, v3, v4, v5, v6, v7, v8, v9⟩ := ten_box H1.out
    have HX := Lib.hid hX
    clear hb h1 hX
    go_upto_region 2 with (fail)
    have hsz : X < u.heap.size := lt_of_block H1.out
    refine gen_world (S := fun v => Below w.heap.size w v ∧ v.heap[X]? = some (.cells #[.int .i64 kind, .int .u64 c0, .int .u64 c1, .int .u64 c2, .int .u64 c3, .string text, .int .i64 rule, .int .i64 level, .slice ao n cap, .int .i64 r] 215 (0, 0)) ∧ v.heap[u.heap.size]? = some (.cells #[.int .u64 c0, .int .u64 c1, .int .u64 c2, .int .u64 c3] 58 (0, 0))) ⟨HB.out.alloc HB.out.size _, (heap_alloc_old _ _ hsz).trans H1.out, heap_alloc_new _ _⟩ (fun v hv => ?_)
    obtain ⟨hb, h1, h2⟩ := hv
    clear v0 v1 v2 v3 v4 v5 v6 v7 v8 v9 HB H1
    have HB := Lib.hid hb
    have H1 := Lib.hid h1
    have H2 := Lib.hid h2
    obtain ⟨Y, hY⟩ : ∃ Y, Y = u.heap.size := ⟨_, rfl⟩
    rw [← hY] at H2 hsz ⊢
    have HY := Lib.hid (show Y ≠ X by omega)
    have HXY := Lib.hid hsz
    obtain ⟨v0, v1, v2, v3, v4, v5, v6, v7, v8, v9⟩ := ten_box H1.out
    have f1 := (block_cell' H1.out 1).2
    have f2 := (block_cell' H1.out 2).2
    have f3 := (block_cell' H1.out 3).2
    have f4 := (block_cell' H1.out 4).2
    clear hb h1 h2 hY hsz
    go_upto_region 3 with (fail)
    have s1 := block_setCell' (k := 1) (u := .int .u64 0) H1.out
    have s2 := block_setCell' (k := 2) (u := .int .u64 0) s1
    have s3 := block_setCell' (k := 3) (u := .int .u64 0) s2
    have s4 := block_setCell' (k := 4) (u := .int .u64 0) s3
    have hxw : w.heap.size ≤ X := Nat.le_of_eq HX.out.symm
    refine gen_world (S := fun u => Below w.heap.size w u ∧ u.heap[X]? = some (.cells #[.int .i64 kind, .int .u64 0, .int .u64 0, .int .u64 0, .int .u64 0, .string text, .int .i64 rule, .int .i64 level, .slice ao n cap, .int .i64 r] 215 (0, 0)) ∧ u.heap[Y]? = some (.cells #[.int .u64 c0, .int .u64 c1, .int .u64 c2, .int .u64 c3] 58 (0, 0))) ⟨(((HB.out.setCell (p := ⟨X, 1, none⟩) hxw _).setCell (p := ⟨X, 2, none⟩) hxw _).setCell (p := ⟨X, 3, none⟩) hxw _).setCell (p := ⟨X, 4, none⟩) hxw _, s4, ?_⟩ (fun v hv => ?_)
    · exact (Below.heap_setCell _ _ _ _ HY.out).trans ((Below.heap_setCell _ _ _ _ HY.out).trans ((Below.heap_setCell _ _ _ _ HY.out).trans ((Below.heap_setCell _ _ _ _ HY.out).trans H2.out)))
    obtain ⟨hb2, h2, h3⟩ := hv
    clear v0 v1 v2 v3 v4 v5 v6 v7 v8 v9 f1 f2 f3 f4 s1 s2 s3 s4 hxw
    obtain ⟨v0, v1, v2, v3, v4, v5, v6, v7, v8, v9⟩ := ten_box h2
    have y0 := (block_cell' h3 0).1
    have y1 := (block_cell' h3 1).1
    have y2 := (block_cell' h3 2).1
    have y3 := (block_cell' h3 3).1
    simp at y0 y1 y2 y3
    have HB2 := Lib.hid hb2
    clear hb2 h2 h3 HB H1 H2
    cases d
    · go_wp2_with fail
      refine (HP.out _).mono ?_
      rintro e w1 ⟨rfl, hb⟩
      have HB1 := Lib.hid hb
      clear hb v0 v1 v2 v3 v4 v5 v6 v7 v8 v9
      go_wp2
      go_ret
      exact ⟨ret_bool (by rw [← hq'.out]; simp), HX.out ▸ HB2.out.trans (HB1.out.mono HB2.out.size)⟩
    · go_wp2
      go_ret
      exact ⟨ret_bool (by rw [← hq'.out]; simp), HX.out ▸ HB2.out⟩
  exact key _ rfl
end Go.Proofs.YtkimkghldilliaaGreat
