/-
  SpanRules: the walk.
-/
import Derived.Test.YtndminmefacmnaaSbc
import Derived.Test.YtndminmefacmnaaSnS
import Derived.Test.YtndminmefacmnaaSnQ
namespace Go.Proofs.Ytndminmefacmnaa
open Go.RowKit Go.Lib

/-- the three boxes. -/
def Sb (w : World) (X : Nat) (a b c d e f : Int) (u : World) : Prop := Below w.heap.size w u ∧ u.heap[X]? = some (.cells #[.int .i64 a, .int .i64 b] 23 (0, 0)) ∧ u.heap[X + 1]? = some (.cells #[.int .i64 c, .int .i64 d] 23 (0, 0)) ∧ u.heap[X + 1 + 1]? = some (.cells #[.int .i64 e, .int .i64 f] 23 (0, 0))
theorem Sb.step {w u u' : World} {X : Nat} {a b c d e f : Int} (h : Sb w X a b c d e f u) (hb : Below u.heap.size u u') : Sb w X a b c d e f u' :=
  ⟨h.1.trans (hb.mono h.1.size), (hb.block _ (lt_of_block h.2.1)).trans h.2.1, (hb.block _ (lt_of_block h.2.2.1)).trans h.2.2.1, (hb.block _ (lt_of_block h.2.2.2)).trans h.2.2.2⟩
theorem Sb.boxes {w u : World} {X : Nat} {a b c d e f : Int} (h : Sb w X a b c d e f u) : u.cell? ⟨X, 0, none⟩ = some (.int .i64 a) ∧ u.cell? ⟨X, 1, none⟩ = some (.int .i64 b) ∧ u.cell? ⟨X + 1, 0, none⟩ = some (.int .i64 c) ∧ u.cell? ⟨X + 1, 1, none⟩ = some (.int .i64 d) ∧ u.cell? ⟨X + 1 + 1, 0, none⟩ = some (.int .i64 e) ∧ u.cell? ⟨X + 1 + 1, 1, none⟩ = some (.int .i64 f) :=
  ⟨(two_box h.2.1).1, (two_box h.2.1).2, (two_box h.2.2.1).1, (two_box h.2.2.1).2, (two_box h.2.2.2).1, (two_box h.2.2.2).2⟩
theorem Sb.new (w : World) (a b c d e f : Int) : Sb w w.heap.size a b c d e f (((w.alloc (.cells #[.int .i64 a, .int .i64 b] 23 (0, 0))).alloc (.cells #[.int .i64 c, .int .i64 d] 23 (0, 0))).alloc (.cells #[.int .i64 e, .int .i64 f] 23 (0, 0))) := by
  obtain ⟨h1, h2, h3⟩ := two_new w (.cells #[.int .i64 a, .int .i64 b] 23 (0, 0)) (.cells #[.int .i64 c, .int .i64 d] 23 (0, 0))
  obtain ⟨k1, k2⟩ := one_new ((w.alloc (.cells #[.int .i64 a, .int .i64 b] 23 (0, 0))).alloc (.cells #[.int .i64 c, .int .i64 d] 23 (0, 0))) (.cells #[.int .i64 e, .int .i64 f] 23 (0, 0))
  have e : ((w.alloc (.cells #[.int .i64 a, .int .i64 b] 23 (0, 0))).alloc (.cells #[.int .i64 c, .int .i64 d] 23 (0, 0))).heap.size = w.heap.size + 1 + 1 := by simp
  refine ⟨h1.trans (k1.mono (by rw [e]; omega)), (k1.block _ (lt_of_block h2)).trans h2, (k1.block _ (lt_of_block h3)).trans h3, ?_⟩
  rw [e] at k2
  exact k2
theorem lift_sb {P : Program} {fn : FuncId} {args : Array Value} {w : World} {X : Nat} {a b c d e f : Int} {R : Ending} (h : ∀ u, Calls P fn args u fun e w' => e = R ∧ Below u.heap.size u w') : ∀ u, Sb w X a b c d e f u → Calls P fn args u fun e' w' => e' = R ∧ Sb w X a b c d e f w' :=
  fun u hu => (h u).mono fun _ _ hh => ⟨hh.1, hu.step hh.2⟩
/-- the laws of region 5. -/
theorem rules_five (a b c d e f : Int) : (inS ⟨a, b⟩ ⟨c, d⟩ = false ∧ (lessS ⟨a, b⟩ ⟨c, d⟩ = false ∨ lessS ⟨a, b⟩ ⟨c, d⟩ = true ∧ lessS ⟨c, d⟩ ⟨a, b⟩ = false ∧ (lessS ⟨c, d⟩ ⟨e, f⟩ = false ∨ lessS ⟨c, d⟩ ⟨e, f⟩ = true ∧ lessS ⟨a, b⟩ ⟨e, f⟩ = true))) ∨
    (inS ⟨a, b⟩ ⟨c, d⟩ = true ∧ lessS ⟨a, b⟩ ⟨c, d⟩ = false ∧ (inS ⟨c, d⟩ ⟨e, f⟩ = false ∨ inS ⟨c, d⟩ ⟨e, f⟩ = true ∧ inS ⟨a, b⟩ ⟨e, f⟩ = true) ∧ (inS ⟨c, d⟩ ⟨a, b⟩ = false ∨ inS ⟨c, d⟩ ⟨a, b⟩ = true ∧ c = a ∧ d = b)) := by
  simp only [inS, lessS, rightS, Bool.and_eq_true, Bool.and_eq_false_iff, decide_eq_true_eq, decide_eq_false_iff_not]
  omega
set_option maxRecDepth 100000 in
theorem eqs_ne (n : Nat) (w : World) {a b c d : Int} (h : ¬ (a = c ∧ b = d)) : (Op.equalIn (n + 1 + 1) 23 (.agg #[.int .i64 a, .int .i64 b]) (.agg #[.int .i64 c, .int .i64 d])).run Try.prog w = .ok false w := by
  have u3 := Try.underlying3
  rw [show n + 1 + 1 = (n + 1) + 1 from rfl, Op.equalIn]
  simp only [Sem.run_bind, run_underlying Try.underlying23, Result.andThen_ok]
  by_cases h1 : a = c
  · have h2 : ¬ b = d := fun e => h ⟨h1, e⟩
    subst h1
    go_simp
  · by_cases h2 : b = d
    · subst h2
      go_simp
    · go_simp
theorem sg_dne {a b c d : Int} (h : ¬ (a = c ∧ b = d)) (w : World) : (binOp .neq 23 (.agg #[.int .i64 a, .int .i64 b]) (.agg #[.int .i64 c, .int .i64 d])).run Try.prog w = .ok (.bool true) w := by
  rw [run_neq_struct, show (10000 : Nat) = (9998 + 1) + 1 from rfl, eqs_ne 9998 w h]
  rfl
theorem join_two {a b c d : Int} (h1 : srB a b = true) (h2 : srB c d = true) : joinS [⟨a, b⟩, ⟨c, d⟩] = ⟨min a c, max b d⟩ := by
  unfold joinS
  rw [show [(⟨a, b⟩ : Sg), ⟨c, d⟩].filter rightS = [⟨a, b⟩, ⟨c, d⟩] from by rw [List.filter_eq_self]; intro s hs; simp at hs; rcases hs with rfl | rfl; exact h1; exact h2]
  rfl
theorem meetIs_srb (a b c d : Int) : meetIs ⟨a, b⟩ ⟨c, d⟩ = (srB a b && srB c d && srB (max a c) (min b d)) := rfl
/-- the laws of region 10. -/
theorem rules_ten {a b c d : Int} (h1 : srB a b = true) (h2 : srB c d = true) :
    ((c = a ∧ d = b) ∧ inS ⟨a, b⟩ ⟨a, b⟩ = true ∧ meetIs ⟨a, b⟩ ⟨a, b⟩ = true ∧ meetS ⟨a, b⟩ ⟨a, b⟩ = ⟨a, b⟩ ∧ joinS [⟨a, b⟩, ⟨a, b⟩] = ⟨a, b⟩) ∨
    (¬ (a = c ∧ b = d) ∧ inS ⟨a, b⟩ ⟨c, d⟩ = true ∧ meetIs ⟨a, b⟩ ⟨c, d⟩ = true ∧ meetS ⟨a, b⟩ ⟨c, d⟩ = ⟨a, b⟩ ∧ joinS [⟨a, b⟩, ⟨c, d⟩] = ⟨c, d⟩ ∧ inS ⟨c, d⟩ ⟨c, d⟩ = true ∧ inS ⟨a, b⟩ ⟨a, b⟩ = true ∧ lessS ⟨a, b⟩ ⟨c, d⟩ = false ∧ lessS ⟨c, d⟩ ⟨a, b⟩ = true) ∨
    (¬ (a = c ∧ b = d) ∧ inS ⟨a, b⟩ ⟨c, d⟩ = false ∧ lessS ⟨c, d⟩ ⟨a, b⟩ = !lessS ⟨a, b⟩ ⟨c, d⟩ ∧ ∃ j, joinS [⟨a, b⟩, ⟨c, d⟩] = j ∧ inS ⟨a, b⟩ j = true ∧ inS ⟨c, d⟩ j = true ∧ (meetIs ⟨a, b⟩ ⟨c, d⟩ = false ∨ meetIs ⟨a, b⟩ ⟨c, d⟩ = true ∧ ∃ m, meetS ⟨a, b⟩ ⟨c, d⟩ = m ∧ inS m ⟨a, b⟩ = true ∧ inS m ⟨c, d⟩ = true)) := by
  have hj := join_two h1 h2
  have hms : ∀ m, meetIs ⟨a, b⟩ ⟨c, d⟩ = true → meetM ⟨a, b⟩ ⟨c, d⟩ = m → meetS ⟨a, b⟩ ⟨c, d⟩ = m := fun m h e => by rw [meetS_is h, e]
  simp only [srB, decide_eq_true_eq] at h1 h2
  by_cases he : c = a ∧ d = b
  · refine .inl ⟨he, ?_⟩
    obtain ⟨rfl, rfl⟩ := he
    have hi : meetIs ⟨c, d⟩ ⟨c, d⟩ = true := by rw [meetIs_srb]; simp only [srB, Bool.and_eq_true, decide_eq_true_eq]; omega
    refine ⟨by simp only [inS, rightS, Bool.and_eq_true, decide_eq_true_eq]; omega, hi, hms _ hi (by simp [meetM]), by rw [hj]; simp⟩
  · have hne : ¬ (a = c ∧ b = d) := fun h => he ⟨h.1.symm, h.2.symm⟩
    by_cases hin : c ≤ a ∧ b ≤ d
    · have hi : meetIs ⟨a, b⟩ ⟨c, d⟩ = true := by rw [meetIs_srb]; simp only [srB, Bool.and_eq_true, decide_eq_true_eq]; omega
      refine .inr (.inl ⟨hne, by simp only [inS, rightS, Bool.and_eq_true, decide_eq_true_eq]; omega, hi, hms _ hi (by simp only [meetM, Sg.mk.injEq]; omega), by rw [hj]; simp only [Sg.mk.injEq]; omega, by simp only [inS, rightS, Bool.and_eq_true, decide_eq_true_eq]; omega, by simp only [inS, rightS, Bool.and_eq_true, decide_eq_true_eq]; omega, ?_, ?_⟩)
      · simp only [lessS, rightS, Bool.and_eq_false_iff, decide_eq_false_iff_not]; omega
      · simp only [lessS, rightS, Bool.and_eq_true, decide_eq_true_eq]; omega
    · refine .inr (.inr ⟨hne, by simp only [inS, rightS, Bool.and_eq_false_iff, decide_eq_false_iff_not]; omega, ?_, _, rfl, by rw [hj]; simp only [inS, rightS, Bool.and_eq_true, decide_eq_true_eq]; omega, by rw [hj]; simp only [inS, rightS, Bool.and_eq_true, decide_eq_true_eq]; omega, ?_⟩)
      · by_cases hl : a < c ∨ a = c ∧ b > d
        · rw [show lessS ⟨a, b⟩ ⟨c, d⟩ = true from by simp only [lessS, rightS, Bool.and_eq_true, decide_eq_true_eq]; omega]
          simp only [lessS, rightS, Bool.not_true, Bool.and_eq_false_iff, decide_eq_false_iff_not]; omega
        · rw [show lessS ⟨a, b⟩ ⟨c, d⟩ = false from by simp only [lessS, rightS, Bool.and_eq_false_iff, decide_eq_false_iff_not]; omega]
          simp only [lessS, rightS, Bool.not_false, Bool.and_eq_true, decide_eq_true_eq]; omega
      · cases hi : meetIs ⟨a, b⟩ ⟨c, d⟩
        · exact .inl rfl
        · refine .inr ⟨rfl, _, rfl, ?_, ?_⟩
          all_goals
            rw [meetS_is hi, show meetM ⟨a, b⟩ ⟨c, d⟩ = ⟨max a c, min b d⟩ from rfl]
            rw [meetIs_srb] at hi
            simp only [srB, Bool.and_eq_true, decide_eq_true_eq] at hi
            simp only [inS, rightS, Bool.and_eq_true, decide_eq_true_eq]
            omega
/-- the laws of the cuts. -/
theorem rules_cut (t : List UInt8) (a b c d : Int) : cutS t ⟨a, b⟩ = none ∧ (cutS t ⟨c, d⟩ = none ∨ (∃ y, cutS t ⟨c, d⟩ = some y) ∧ inS ⟨a, b⟩ ⟨c, d⟩ = false) ∨
    (srB a b = true ∧ ∃ x, cutS t ⟨a, b⟩ = some x ∧ (x.length : Int) = lenS ⟨a, b⟩ ∧ x.length ≤ t.length ∧ (cutS t ⟨c, d⟩ = none ∨ ∃ y, cutS t ⟨c, d⟩ = some y ∧ (y.length : Int) = lenS ⟨c, d⟩ ∧ y.length ≤ t.length ∧ (inS ⟨a, b⟩ ⟨c, d⟩ = false ∨ inS ⟨a, b⟩ ⟨c, d⟩ = true ∧
      ∃ i j k : Nat, c = k ∧ a = k + i ∧ b = k + j ∧ i ≤ j ∧ j ≤ y.length ∧ k + j ≤ t.length ∧ (y.drop i).take (j - i) = x))) := by
  unfold cutS
  by_cases h1 : rightS ⟨a, b⟩ = true ∧ b ≤ t.length
  · refine .inr ⟨h1.1, _, if_pos h1, ?_⟩
    have g1 := h1.1
    simp only [rightS, decide_eq_true_eq] at g1
    have g2 := h1.2
    refine ⟨by unfold lenS; rw [if_pos h1.1]; simp only [List.length_take, List.length_drop]; omega, by simp only [List.length_take, List.length_drop]; omega, ?_⟩
    by_cases h2 : rightS ⟨c, d⟩ = true ∧ d ≤ t.length
    · refine .inr ⟨_, if_pos h2, ?_⟩
      have g3 := h2.1
      simp only [rightS, decide_eq_true_eq] at g3
      have g4 := h2.2
      refine ⟨by unfold lenS; rw [if_pos h2.1]; simp only [List.length_take, List.length_drop]; omega, by simp only [List.length_take, List.length_drop]; omega, ?_⟩
      by_cases h3 : c ≤ a ∧ b ≤ d
      · refine .inr ⟨by simp only [inS, rightS, Bool.and_eq_true, decide_eq_true_eq]; omega, (a - c).toNat, (b - c).toNat, c.toNat, by omega, by omega, by omega, by omega, by simp only [List.length_take, List.length_drop]; omega, by omega, ?_⟩
        simp only []
        rw [List.drop_take, List.drop_drop, List.take_take]
        congr 1
        · omega
        · congr 1; omega
      · exact .inl (by simp only [inS, rightS, Bool.and_eq_false_iff, decide_eq_false_iff_not]; omega)
    · exact .inl (if_neg h2)
  · refine .inl ⟨if_neg h1, ?_⟩
    by_cases h2 : rightS ⟨c, d⟩ = true ∧ d ≤ t.length
    · refine .inr ⟨⟨_, if_pos h2⟩, ?_⟩
      have g4 := h2.2
      cases h3 : inS ⟨a, b⟩ ⟨c, d⟩
      · rfl
      · exfalso
        simp only [inS, Bool.and_eq_true, decide_eq_true_eq] at h3
        exact h1 ⟨h3.1.1, by omega⟩
    · exact .inl (if_neg h2)
theorem lift_two {P : Program} {fn : FuncId} {args : Array Value} {w u0 : World} {X : Nat} {a b c d e f : Int} {R : Ending} (h : ∀ u, Calls P fn args u fun e w' => e = R ∧ Below u.heap.size u w') : ∀ u, Sb w X a b c d e f u ∧ Below u0.heap.size u0 u → Calls P fn args u fun e' w' => e' = R ∧ Sb w X a b c d e f w' ∧ Below u0.heap.size u0 w' :=
  fun u hu => (h u).mono fun _ _ hh => ⟨hh.1, hu.1.step hh.2, hu.2.trans (hh.2.mono hu.2.size)⟩
theorem cutR_none {w w' : World} {e : Ending} {r : Option (List UInt8)} (h : CutR w e w' r) (hr : r = none) : e = .returned (.tuple #[.slice none 0 0, .int .i64 6]) ∧ Below w.heap.size w w' := by
  subst hr
  exact h
theorem cutR_some {w w' : World} {e : Ending} {r : Option (List UInt8)} {x : List UInt8} (h : CutR w e w' r) (hr : r = some x) : ∃ ga gc, e = .returned (.tuple #[.slice ga x.length gc, .int .i64 0]) ∧ BytesAt w' (.slice ga x.length gc) x ∧ Below w.heap.size w w' := by
  subst hr
  obtain ⟨⟨v', he, ho⟩, hb⟩ := h
  obtain ⟨ga, gc, rfl⟩ := own_val ho
  exact ⟨ga, gc, he, bytes_own ho, hb⟩
set_option maxRecDepth 100000 in
set_option maxHeartbeats 8000000 in
theorem spanRules_main (a b c d e f : Int) (v : Value) (t : List UInt8) (w : World) (h : BytesAt w v t) (hb' : b ≤ 9223372036854775807) (hd' : d ≤ 9223372036854775807) :
    Calls Try.prog 5 #[.agg #[.int .i64 a, .int .i64 b], .agg #[.int .i64 c, .int .i64 d], .agg #[.int .i64 e, .int .i64 f], v] w fun e w' => e = .returned (.bool true) ∧ Below w.heap.size w w' := by
  have H := Lib.hid h
  obtain ⟨ao, bb, off, cap, rfl, hlc, hm, -, -, -⟩ := h
  obtain ⟨n, hn⟩ : ∃ n, n = t.length := ⟨_, rfl⟩
  have HN := Lib.hid hn
  rw [← hn] at hlc H ⊢
  have hn2 : n ≤ 9223372036854775807 := by unfold maxLen at hm; omega
  have HBd := Lib.hid hb'
  have HDd := Lib.hid hd'
  clear hn hm hlc hb' hd'
  have HK : ∀ X, Hid (∀ u, Sb w X a b c d e f u → Calls Try.prog 8 #[] u fun e' w' => e' = .returned (.bool true) ∧ Sb w X a b c d e f w') := fun X => Lib.hid (lift_sb (fun u => awake_any u))
  have K1 := Lib.hid (lift_sb (w := w) (X := w.heap.size) (a := a) (b := b) (c := c) (d := d) (e := e) (f := f) (fun u => sIn_any a b c d u))
  have K2 := Lib.hid (lift_sb (w := w) (X := w.heap.size) (a := a) (b := b) (c := c) (d := d) (e := e) (f := f) (fun u => sIn_any c d e f u))
  have K3 := Lib.hid (lift_sb (w := w) (X := w.heap.size) (a := a) (b := b) (c := c) (d := d) (e := e) (f := f) (fun u => sIn_any a b e f u))
  have K4 := Lib.hid (lift_sb (w := w) (X := w.heap.size) (a := a) (b := b) (c := c) (d := d) (e := e) (f := f) (fun u => sIn_any c d a b u))
  have M1 := Lib.hid (lift_sb (w := w) (X := w.heap.size) (a := a) (b := b) (c := c) (d := d) (e := e) (f := f) (fun u => sLess_any a b c d u))
  have M2 := Lib.hid (lift_sb (w := w) (X := w.heap.size) (a := a) (b := b) (c := c) (d := d) (e := e) (f := f) (fun u => sLess_any c d a b u))
  have M3 := Lib.hid (lift_sb (w := w) (X := w.heap.size) (a := a) (b := b) (c := c) (d := d) (e := e) (f := f) (fun u => sLess_any c d e f u))
  have M4 := Lib.hid (lift_sb (w := w) (X := w.heap.size) (a := a) (b := b) (c := c) (d := d) (e := e) (f := f) (fun u => sLess_any a b e f u))
  rw [siB_eq] at K1 K2 K3 K4
  have KR1 := Lib.hid (lift_sb (w := w) (X := w.heap.size) (a := a) (b := b) (c := c) (d := d) (e := e) (f := f) (fun u => sRight_any a b u))
  have KR2 := Lib.hid (lift_sb (w := w) (X := w.heap.size) (a := a) (b := b) (c := c) (d := d) (e := e) (f := f) (fun u => sRight_any c d u))
  have KN1 := Lib.hid (lift_sb (w := w) (X := w.heap.size) (a := a) (b := b) (c := c) (d := d) (e := e) (f := f) (fun u => sLen_any a b u HBd.out))
  have KN2 := Lib.hid (lift_sb (w := w) (X := w.heap.size) (a := a) (b := b) (c := c) (d := d) (e := e) (f := f) (fun u => sLen_any c d u HDd.out))
  have HAw := HK w.heap.size
  clear HK
  have H5 := Lib.hid (rules_five a b c d e f)
  have hneq := sg_neq
  go_enter Try.func5, Try.ntmps5
  go_upto_region 1 with (fail)
  refine gen_world (S := fun u => Sb w w.heap.size a b c d e f u) (Sb.new w a b c d e f) (fun u hs => ?_)
  obtain ⟨X, hX⟩ : ∃ X, X = w.heap.size := ⟨_, rfl⟩
  rw [← hX] at hs K1 K2 K3 K4 M1 M2 M3 M4 KR1 KR2 KN1 KN2 HAw ⊢
  clear hX
  have HS := Lib.hid hs
  obtain ⟨x0, x1, y0, y1, z0, z1⟩ := hs.boxes
  clear hs
  go_wp2_with fail
  refine (HAw.out _ HS.out).mono ?_
  rintro e uu ⟨rfl, hs⟩
  clear x0 x1 y0 y1 z0 z1 HS
  have HS := Lib.hid hs
  obtain ⟨x0, x1, y0, y1, z0, z1⟩ := hs.boxes
  clear hs
  by_cases hbig : 300 < n
  · have hbig' : (300 : Int) < n := by omega
    go_wp2
    go_ret
    exact ⟨rfl, HS.out.1⟩
  have hbig' : ¬ (300 : Int) < n := by omega
  have HLn := Lib.hid (show t.length ≤ 1000000 from by rw [← HN.out]; omega)
  go_upto_region 5 with (fail)
  go_cut [75] (fun y wq => y = .bool false ∧ Sb w X a b c d e f wq)
  case first =>
    rcases H5.out with ⟨h1, h2⟩ | ⟨h1, h2, h3, h4⟩
    · rw [h1] at K1
      rcases h2 with h2 | ⟨h2, h3, h4⟩
      · rw [h2] at M1
        clear h1 h2
        as_aux_lemma =>
          go_wp2_with fail
          refine (K1.out _ HS.out).mono ?_
          rintro e uu ⟨rfl, hs⟩
          clear x0 x1 y0 y1 z0 z1 HS
          have HS := Lib.hid hs
          obtain ⟨x0, x1, y0, y1, z0, z1⟩ := hs.boxes
          clear hs
          go_wp2_with fail
          refine (K1.out _ HS.out).mono ?_
          rintro e uu ⟨rfl, hs⟩
          clear x0 x1 y0 y1 z0 z1 HS
          have HS := Lib.hid hs
          obtain ⟨x0, x1, y0, y1, z0, z1⟩ := hs.boxes
          clear hs
          go_wp2_with fail
          refine (M1.out _ HS.out).mono ?_
          rintro e uu ⟨rfl, hs⟩
          clear x0 x1 y0 y1 z0 z1 HS
          have HS := Lib.hid hs
          obtain ⟨x0, x1, y0, y1, z0, z1⟩ := hs.boxes
          clear hs
          go_wp2_with fail
          refine (M1.out _ HS.out).mono ?_
          rintro e uu ⟨rfl, hs⟩
          clear x0 x1 y0 y1 z0 z1 HS
          have HS := Lib.hid hs
          obtain ⟨x0, x1, y0, y1, z0, z1⟩ := hs.boxes
          clear hs
          go_wp2
          go_meet
          exact ⟨rfl, HS.out⟩
      · rw [h2] at M1
        rw [h3] at M2
        rcases h4 with h4 | ⟨h4, h5⟩
        · rw [h4] at M3
          clear h1 h2 h3 h4
          go_wp2_with fail
          refine (K1.out _ HS.out).mono ?_
          rintro e uu ⟨rfl, hs⟩
          clear x0 x1 y0 y1 z0 z1 HS
          have HS := Lib.hid hs
          obtain ⟨x0, x1, y0, y1, z0, z1⟩ := hs.boxes
          clear hs
          go_wp2_with fail
          refine (K1.out _ HS.out).mono ?_
          rintro e uu ⟨rfl, hs⟩
          clear x0 x1 y0 y1 z0 z1 HS
          have HS := Lib.hid hs
          obtain ⟨x0, x1, y0, y1, z0, z1⟩ := hs.boxes
          clear hs
          go_wp2_with fail
          refine (M1.out _ HS.out).mono ?_
          rintro e uu ⟨rfl, hs⟩
          clear x0 x1 y0 y1 z0 z1 HS
          have HS := Lib.hid hs
          obtain ⟨x0, x1, y0, y1, z0, z1⟩ := hs.boxes
          clear hs
          go_wp2_with fail
          refine (M2.out _ HS.out).mono ?_
          rintro e uu ⟨rfl, hs⟩
          clear x0 x1 y0 y1 z0 z1 HS
          have HS := Lib.hid hs
          obtain ⟨x0, x1, y0, y1, z0, z1⟩ := hs.boxes
          clear hs
          go_wp2_with fail
          refine (M1.out _ HS.out).mono ?_
          rintro e uu ⟨rfl, hs⟩
          clear x0 x1 y0 y1 z0 z1 HS
          have HS := Lib.hid hs
          obtain ⟨x0, x1, y0, y1, z0, z1⟩ := hs.boxes
          clear hs
          go_wp2_with fail
          refine (M3.out _ HS.out).mono ?_
          rintro e uu ⟨rfl, hs⟩
          clear x0 x1 y0 y1 z0 z1 HS
          have HS := Lib.hid hs
          obtain ⟨x0, x1, y0, y1, z0, z1⟩ := hs.boxes
          clear hs
          go_wp2
          go_meet
          exact ⟨rfl, HS.out⟩
        · rw [h4] at M3
          rw [h5] at M4
          clear h1 h2 h3 h4 h5
          go_wp2_with fail
          refine (K1.out _ HS.out).mono ?_
          rintro e uu ⟨rfl, hs⟩
          clear x0 x1 y0 y1 z0 z1 HS
          have HS := Lib.hid hs
          obtain ⟨x0, x1, y0, y1, z0, z1⟩ := hs.boxes
          clear hs
          go_wp2_with fail
          refine (K1.out _ HS.out).mono ?_
          rintro e uu ⟨rfl, hs⟩
          clear x0 x1 y0 y1 z0 z1 HS
          have HS := Lib.hid hs
          obtain ⟨x0, x1, y0, y1, z0, z1⟩ := hs.boxes
          clear hs
          go_wp2_with fail
          refine (M1.out _ HS.out).mono ?_
          rintro e uu ⟨rfl, hs⟩
          clear x0 x1 y0 y1 z0 z1 HS
          have HS := Lib.hid hs
          obtain ⟨x0, x1, y0, y1, z0, z1⟩ := hs.boxes
          clear hs
          go_wp2_with fail
          refine (M2.out _ HS.out).mono ?_
          rintro e uu ⟨rfl, hs⟩
          clear x0 x1 y0 y1 z0 z1 HS
          have HS := Lib.hid hs
          obtain ⟨x0, x1, y0, y1, z0, z1⟩ := hs.boxes
          clear hs
          go_wp2_with fail
          refine (M1.out _ HS.out).mono ?_
          rintro e uu ⟨rfl, hs⟩
          clear x0 x1 y0 y1 z0 z1 HS
          have HS := Lib.hid hs
          obtain ⟨x0, x1, y0, y1, z0, z1⟩ := hs.boxes
          clear hs
          go_wp2_with fail
          refine (M3.out _ HS.out).mono ?_
          rintro e uu ⟨rfl, hs⟩
          clear x0 x1 y0 y1 z0 z1 HS
          have HS := Lib.hid hs
          obtain ⟨x0, x1, y0, y1, z0, z1⟩ := hs.boxes
          clear hs
          go_wp2_with fail
          refine (M4.out _ HS.out).mono ?_
          rintro e uu ⟨rfl, hs⟩
          clear x0 x1 y0 y1 z0 z1 HS
          have HS := Lib.hid hs
          obtain ⟨x0, x1, y0, y1, z0, z1⟩ := hs.boxes
          clear hs
          go_wp2
          go_meet
          exact ⟨rfl, HS.out⟩
    · rw [h1] at K1
      rw [h2] at M1
      rcases h3 with h3 | ⟨h3, h5⟩
      · rw [h3] at K2
        rcases h4 with h4 | ⟨h4, rfl, rfl⟩
        · rw [h4] at K4
          clear h1 h2 h3 h4
          go_wp2_with fail
          refine (K1.out _ HS.out).mono ?_
          rintro e uu ⟨rfl, hs⟩
          clear x0 x1 y0 y1 z0 z1 HS
          have HS := Lib.hid hs
          obtain ⟨x0, x1, y0, y1, z0, z1⟩ := hs.boxes
          clear hs
          go_wp2_with fail
          refine (K2.out _ HS.out).mono ?_
          rintro e uu ⟨rfl, hs⟩
          clear x0 x1 y0 y1 z0 z1 HS
          have HS := Lib.hid hs
          obtain ⟨x0, x1, y0, y1, z0, z1⟩ := hs.boxes
          clear hs
          go_wp2_with fail
          refine (K1.out _ HS.out).mono ?_
          rintro e uu ⟨rfl, hs⟩
          clear x0 x1 y0 y1 z0 z1 HS
          have HS := Lib.hid hs
          obtain ⟨x0, x1, y0, y1, z0, z1⟩ := hs.boxes
          clear hs
          go_wp2_with fail
          refine (K4.out _ HS.out).mono ?_
          rintro e uu ⟨rfl, hs⟩
          clear x0 x1 y0 y1 z0 z1 HS
          have HS := Lib.hid hs
          obtain ⟨x0, x1, y0, y1, z0, z1⟩ := hs.boxes
          clear hs
          go_wp2_with fail
          refine (M1.out _ HS.out).mono ?_
          rintro e uu ⟨rfl, hs⟩
          clear x0 x1 y0 y1 z0 z1 HS
          have HS := Lib.hid hs
          obtain ⟨x0, x1, y0, y1, z0, z1⟩ := hs.boxes
          clear hs
          go_wp2_with fail
          refine (M1.out _ HS.out).mono ?_
          rintro e uu ⟨rfl, hs⟩
          clear x0 x1 y0 y1 z0 z1 HS
          have HS := Lib.hid hs
          obtain ⟨x0, x1, y0, y1, z0, z1⟩ := hs.boxes
          clear hs
          go_wp2
          go_meet
          exact ⟨rfl, HS.out⟩
        · clear h1 h2 h3 h4
          go_wp2_with fail
          refine (K1.out _ HS.out).mono ?_
          rintro e uu ⟨rfl, hs⟩
          clear x0 x1 y0 y1 z0 z1 HS
          have HS := Lib.hid hs
          obtain ⟨x0, x1, y0, y1, z0, z1⟩ := hs.boxes
          clear hs
          go_wp2_with fail
          refine (K2.out _ HS.out).mono ?_
          rintro e uu ⟨rfl, hs⟩
          clear x0 x1 y0 y1 z0 z1 HS
          have HS := Lib.hid hs
          obtain ⟨x0, x1, y0, y1, z0, z1⟩ := hs.boxes
          clear hs
          go_wp2_with fail
          refine (K1.out _ HS.out).mono ?_
          rintro e uu ⟨rfl, hs⟩
          clear x0 x1 y0 y1 z0 z1 HS
          have HS := Lib.hid hs
          obtain ⟨x0, x1, y0, y1, z0, z1⟩ := hs.boxes
          clear hs
          go_wp2_with fail
          refine (K1.out _ HS.out).mono ?_
          rintro e uu ⟨rfl, hs⟩
          clear x0 x1 y0 y1 z0 z1 HS
          have HS := Lib.hid hs
          obtain ⟨x0, x1, y0, y1, z0, z1⟩ := hs.boxes
          clear hs
          go_wp2_with fail
          refine (M1.out _ HS.out).mono ?_
          rintro e uu ⟨rfl, hs⟩
          clear x0 x1 y0 y1 z0 z1 HS
          have HS := Lib.hid hs
          obtain ⟨x0, x1, y0, y1, z0, z1⟩ := hs.boxes
          clear hs
          go_wp2_with fail
          refine (M1.out _ HS.out).mono ?_
          rintro e uu ⟨rfl, hs⟩
          clear x0 x1 y0 y1 z0 z1 HS
          have HS := Lib.hid hs
          obtain ⟨x0, x1, y0, y1, z0, z1⟩ := hs.boxes
          clear hs
          go_wp2
          go_meet
          exact ⟨rfl, HS.out⟩
      · rw [h3] at K2
        rw [h5] at K3
        rcases h4 with h4 | ⟨h4, rfl, rfl⟩
        · rw [h4] at K4
          clear h1 h2 h3 h4 h5
          go_wp2_with fail
          refine (K1.out _ HS.out).mono ?_
          rintro e uu ⟨rfl, hs⟩
          clear x0 x1 y0 y1 z0 z1 HS
          have HS := Lib.hid hs
          obtain ⟨x0, x1, y0, y1, z0, z1⟩ := hs.boxes
          clear hs
          go_wp2_with fail
          refine (K2.out _ HS.out).mono ?_
          rintro e uu ⟨rfl, hs⟩
          clear x0 x1 y0 y1 z0 z1 HS
          have HS := Lib.hid hs
          obtain ⟨x0, x1, y0, y1, z0, z1⟩ := hs.boxes
          clear hs
          go_wp2_with fail
          refine (K3.out _ HS.out).mono ?_
          rintro e uu ⟨rfl, hs⟩
          clear x0 x1 y0 y1 z0 z1 HS
          have HS := Lib.hid hs
          obtain ⟨x0, x1, y0, y1, z0, z1⟩ := hs.boxes
          clear hs
          go_wp2_with fail
          refine (K1.out _ HS.out).mono ?_
          rintro e uu ⟨rfl, hs⟩
          clear x0 x1 y0 y1 z0 z1 HS
          have HS := Lib.hid hs
          obtain ⟨x0, x1, y0, y1, z0, z1⟩ := hs.boxes
          clear hs
          go_wp2_with fail
          refine (K4.out _ HS.out).mono ?_
          rintro e uu ⟨rfl, hs⟩
          clear x0 x1 y0 y1 z0 z1 HS
          have HS := Lib.hid hs
          obtain ⟨x0, x1, y0, y1, z0, z1⟩ := hs.boxes
          clear hs
          go_wp2_with fail
          refine (M1.out _ HS.out).mono ?_
          rintro e uu ⟨rfl, hs⟩
          clear x0 x1 y0 y1 z0 z1 HS
          have HS := Lib.hid hs
          obtain ⟨x0, x1, y0, y1, z0, z1⟩ := hs.boxes
          clear hs
          go_wp2_with fail
          refine (M1.out _ HS.out).mono ?_
          rintro e uu ⟨rfl, hs⟩
          clear x0 x1 y0 y1 z0 z1 HS
          have HS := Lib.hid hs
          obtain ⟨x0, x1, y0, y1, z0, z1⟩ := hs.boxes
          clear hs
          go_wp2
          go_meet
          exact ⟨rfl, HS.out⟩
        · clear h1 h2 h3 h4 h5
          go_wp2_with fail
          refine (K1.out _ HS.out).mono ?_
          rintro e uu ⟨rfl, hs⟩
          clear x0 x1 y0 y1 z0 z1 HS
          have HS := Lib.hid hs
          obtain ⟨x0, x1, y0, y1, z0, z1⟩ := hs.boxes
          clear hs
          go_wp2_with fail
          refine (K2.out _ HS.out).mono ?_
          rintro e uu ⟨rfl, hs⟩
          clear x0 x1 y0 y1 z0 z1 HS
          have HS := Lib.hid hs
          obtain ⟨x0, x1, y0, y1, z0, z1⟩ := hs.boxes
          clear hs
          go_wp2_with fail
          refine (K3.out _ HS.out).mono ?_
          rintro e uu ⟨rfl, hs⟩
          clear x0 x1 y0 y1 z0 z1 HS
          have HS := Lib.hid hs
          obtain ⟨x0, x1, y0, y1, z0, z1⟩ := hs.boxes
          clear hs
          go_wp2_with fail
          refine (K1.out _ HS.out).mono ?_
          rintro e uu ⟨rfl, hs⟩
          clear x0 x1 y0 y1 z0 z1 HS
          have HS := Lib.hid hs
          obtain ⟨x0, x1, y0, y1, z0, z1⟩ := hs.boxes
          clear hs
          go_wp2_with fail
          refine (K1.out _ HS.out).mono ?_
          rintro e uu ⟨rfl, hs⟩
          clear x0 x1 y0 y1 z0 z1 HS
          have HS := Lib.hid hs
          obtain ⟨x0, x1, y0, y1, z0, z1⟩ := hs.boxes
          clear hs
          go_wp2_with fail
          refine (M1.out _ HS.out).mono ?_
          rintro e uu ⟨rfl, hs⟩
          clear x0 x1 y0 y1 z0 z1 HS
          have HS := Lib.hid hs
          obtain ⟨x0, x1, y0, y1, z0, z1⟩ := hs.boxes
          clear hs
          go_wp2_with fail
          refine (M1.out _ HS.out).mono ?_
          rintro e uu ⟨rfl, hs⟩
          clear x0 x1 y0 y1 z0 z1 HS
          have HS := Lib.hid hs
          obtain ⟨x0, x1, y0, y1, z0, z1⟩ := hs.boxes
          clear hs
          go_wp2
          go_meet
          exact ⟨rfl, HS.out⟩
  case rest =>
    obtain ⟨rfl, hs⟩ := hcut
    clear K2 K3 M3 M4 H5
    clear x0 x1 y0 y1 z0 z1 HS
    have HS := Lib.hid hs
    obtain ⟨x0, x1, y0, y1, z0, z1⟩ := hs.boxes
    clear hs
    go_upto_region 7 with (fail)
    go_cut [81] (fun y wq => y = .bool (srB a b && srB c d) ∧ Sb w X a b c d e f wq)
    case first =>
      cases h1 : srB a b
      · rw [h1] at KR1
        have Q1 := Lib.hid h1
        clear h1
        go_wp2_with fail
        refine (KR1.out _ HS.out).mono ?_
        rintro e uu ⟨rfl, hs⟩
        clear x0 x1 y0 y1 z0 z1 HS
        have HS := Lib.hid hs
        obtain ⟨x0, x1, y0, y1, z0, z1⟩ := hs.boxes
        clear hs
        go_wp2
        go_meet
        exact ⟨by rw [Q1.out]; rfl, HS.out⟩
      · rw [h1] at KR1
        cases h2 : srB c d
        · rw [h2] at KR2
          have Q1 := Lib.hid h1
          have Q2 := Lib.hid h2
          clear h1 h2
          go_wp2_with fail
          refine (KR1.out _ HS.out).mono ?_
          rintro e uu ⟨rfl, hs⟩
          clear x0 x1 y0 y1 z0 z1 HS
          have HS := Lib.hid hs
          obtain ⟨x0, x1, y0, y1, z0, z1⟩ := hs.boxes
          clear hs
          go_wp2_with fail
          refine (KR2.out _ HS.out).mono ?_
          rintro e uu ⟨rfl, hs⟩
          clear x0 x1 y0 y1 z0 z1 HS
          have HS := Lib.hid hs
          obtain ⟨x0, x1, y0, y1, z0, z1⟩ := hs.boxes
          clear hs
          go_wp2
          go_meet
          exact ⟨by rw [Q1.out, Q2.out]; rfl, HS.out⟩
        · rw [h2] at KR2
          have Q1 := Lib.hid h1
          have Q2 := Lib.hid h2
          clear h1 h2
          go_wp2_with fail
          refine (KR1.out _ HS.out).mono ?_
          rintro e uu ⟨rfl, hs⟩
          clear x0 x1 y0 y1 z0 z1 HS
          have HS := Lib.hid hs
          obtain ⟨x0, x1, y0, y1, z0, z1⟩ := hs.boxes
          clear hs
          go_wp2_with fail
          refine (KR2.out _ HS.out).mono ?_
          rintro e uu ⟨rfl, hs⟩
          clear x0 x1 y0 y1 z0 z1 HS
          have HS := Lib.hid hs
          obtain ⟨x0, x1, y0, y1, z0, z1⟩ := hs.boxes
          clear hs
          go_wp2
          go_meet
          exact ⟨by rw [Q1.out, Q2.out]; rfl, HS.out⟩
    case rest =>
      obtain ⟨rfl, hs⟩ := hcut
      clear x0 x1 y0 y1 z0 z1 HS
      have HS := Lib.hid hs
      obtain ⟨x0, x1, y0, y1, z0, z1⟩ := hs.boxes
      clear hs
      go_upto_if 81 with (fail)
      go_cut [] (fun wq => Sb w X a b c d e f wq)
      case first =>
        cases hrr : (srB a b && srB c d)
        · go_wp2
          go_meet
          exact HS.out
        · have hra : srB a b = true := by simp only [Bool.and_eq_true] at hrr; exact hrr.1
          have hrc : srB c d = true := by simp only [Bool.and_eq_true] at hrr; exact hrr.2
          have H10 := Lib.hid (rules_ten hra hrc)
          clear hra hrc hrr
          rcases H10.out with ⟨⟨rfl, rfl⟩, h1, h2, h3, h4⟩ | ⟨hne, h1, h2, h3, h4, h5, h6, h7, h8⟩ | ⟨hne, h1, h2, ⟨jf, jt⟩, h3, h4, h5, h6⟩
          · have HJ := Lib.hid (fun (u : World) (v : Value) (h : SgsAt u v [⟨c, d⟩, ⟨c, d⟩]) => sJoin_any v [⟨c, d⟩, ⟨c, d⟩] u h (by simp))
            have HM := Lib.hid (fun (u : World) (_ : Sb w X c d c d e f u) => sMeet_any c d c d u)
            rw [h4] at HJ
            rw [h3, h2] at HM
            simp only [sgv] at HJ HM
            have E1 := Lib.hid (fun u => sIn_any c d c d u)
            rw [siB_eq] at E1
            rw [h1] at E1
            have E2 := Lib.hid (fun u => sIn_any c d c d u)
            rw [siB_eq] at E2
            rw [h1] at E2
            have E3 := Lib.hid (fun u => sIn_any c d c d u)
            rw [siB_eq] at E3
            rw [h1] at E3
            have E4 := Lib.hid (fun u => sIn_any c d c d u)
            rw [siB_eq] at E4
            rw [h1] at E4
            have E5 := Lib.hid (fun u => sLess_any c d c d u)
            have E6 := Lib.hid (fun u => sLess_any c d c d u)
            have E7 := Lib.hid (fun u => sIn_any c d c d u)
            rw [siB_eq] at E7
            rw [h1] at E7
            clear h1 h2 h3 h4 H10
            as_aux_lemma =>
              go_wp2_with fail
              obtain ⟨hb1, hg1⟩ := one_new wc (.cells #[.int .i64 c, .int .i64 d, .int .i64 c, .int .i64 d] 23 (0, 0))
              refine (HJ.out _ _ (new_row (l := [(⟨c, d⟩ : Sg), ⟨c, d⟩]) sgc_len hg1 (by simp) rfl)).mono ?_
              rintro e1 uu ⟨rfl, hb⟩
              have hs := HS.out.step (hb1.trans (hb.mono hb1.size))
              clear hb1 hg1 hb
              clear x0 x1 y0 y1 z0 z1 HS
              have HS := Lib.hid hs
              obtain ⟨x0, x1, y0, y1, z0, z1⟩ := hs.boxes
              clear hs
              go_upto_region 9 with (fail)
              obtain ⟨hb1, hg1⟩ := one_new uu (.cells #[.int .i64 c, .int .i64 d] 23 (0, 0))
              refine gen_world (S := fun v => Sb w X c d c d e f v ∧ v.heap[uu.heap.size]? = some (.cells #[.int .i64 c, .int .i64 d] 23 (0, 0))) ⟨HS.out.step hb1, hg1⟩ (fun u2 hv => ?_)
              obtain ⟨hs, hj⟩ := hv
              generalize uu.heap.size = J at hj ⊢
              have HJb := Lib.hid hj
              clear hj hb1 hg1
              clear x0 x1 y0 y1 z0 z1 HS
              have HS := Lib.hid hs
              obtain ⟨x0, x1, y0, y1, z0, z1⟩ := hs.boxes
              clear hs
              go_wp2_with fail
              refine (HM.out _ HS.out).mono ?_
              rintro e1 u3 ⟨rfl, hb⟩
              have hj := (hb.block _ (lt_of_block HJb.out)).trans HJb.out
              have hs := HS.out.step hb
              clear hb HJb
              have HJb := Lib.hid hj
              clear hj
              clear x0 x1 y0 y1 z0 z1 HS
              have HS := Lib.hid hs
              obtain ⟨x0, x1, y0, y1, z0, z1⟩ := hs.boxes
              clear hs
              go_upto_region 10 with (fail)
              obtain ⟨hb1, hg1⟩ := one_new u3 (.cells #[.int .i64 c, .int .i64 d] 23 (0, 0))
              refine gen_world (S := fun v => Sb w X c d c d e f v ∧ v.heap[J]? = some (.cells #[.int .i64 c, .int .i64 d] 23 (0, 0)) ∧ v.heap[u3.heap.size]? = some (.cells #[.int .i64 c, .int .i64 d] 23 (0, 0))) ⟨HS.out.step hb1, (hb1.block _ (lt_of_block HJb.out)).trans HJb.out, hg1⟩ (fun wr hv => ?_)
              obtain ⟨hs, hj, hm⟩ := hv
              generalize u3.heap.size = M at hm ⊢
              obtain ⟨j0, j1⟩ := two_box hj
              obtain ⟨m0, m1⟩ := two_box hm
              clear hj hm hb1 hg1 HJb HJ HM
              clear x0 x1 y0 y1 z0 z1 HS
              have HS := Lib.hid hs
              obtain ⟨x0, x1, y0, y1, z0, z1⟩ := hs.boxes
              clear hs
              have L1 := Lib.hid (lift_below (w := wr) E1.out)
              have L2 := Lib.hid (lift_below (w := wr) E2.out)
              have L3 := Lib.hid (lift_below (w := wr) E3.out)
              have L4 := Lib.hid (lift_below (w := wr) E4.out)
              have L5 := Lib.hid (lift_below (w := wr) E5.out)
              have L6 := Lib.hid (lift_below (w := wr) E6.out)
              have L7 := Lib.hid (lift_below (w := wr) E7.out)
              refine wp_region_held_drew (S := fun u => Below wr.heap.size wr u) (by kernel_rfl) ((Below.refl wr.heap.size wr).drew) (fun hS => ?_)
              refine wpAnyH_take (i := 0) (oi := ⟨_, _, _, _, _, _⟩) (v := ?v1) rfl (by kernel_rfl) (by kernel_rfl) (by kernel_rfl) (fun _ _ _ h => h) ?y1 hS ?_
              case y1 => first | (refine Or.inr ⟨by rfl, ?_⟩; with_reducible rfl) | (refine Or.inl ⟨by rfl, ?_⟩; intro wS hSw; have q0 := cell_later hSw x0; have q1 := cell_later hSw x1; have q2 := cell_later hSw y0; have q3 := cell_later hSw y1; have q4 := cell_later hSw j0; have q5 := cell_later hSw j1; have q6 := cell_later hSw m0; have q7 := cell_later hSw m1; go_simp; try with_reducible rfl)
              simp only [Act.put, List.setIfInBounds_toArray, List.set_cons_zero, List.set_cons_succ]
              refine wpAnyH_take (i := 1) (oi := ⟨_, _, _, _, _, _⟩) (v := ?v2) rfl (by kernel_rfl) (by kernel_rfl) (by kernel_rfl) (fun _ _ _ h => h) ?y2 hS ?_
              case y2 => first | (refine Or.inr ⟨by rfl, ?_⟩; with_reducible rfl) | (refine Or.inl ⟨by rfl, ?_⟩; intro wS hSw; have q0 := cell_later hSw x0; have q1 := cell_later hSw x1; have q2 := cell_later hSw y0; have q3 := cell_later hSw y1; have q4 := cell_later hSw j0; have q5 := cell_later hSw j1; have q6 := cell_later hSw m0; have q7 := cell_later hSw m1; go_simp; try with_reducible rfl)
              simp only [Act.put, List.setIfInBounds_toArray, List.set_cons_zero, List.set_cons_succ]
              refine wpAnyH_ready (rs := [2]) (by kernel_rfl) (by simp) ?_
              refine AllReadyH.cons (o := ⟨_, _, _, _, _, _⟩) rfl (fun K hK => ?_) AllReadyH.nil
              go_simp
              refine (L1.out _ hS).mono ?_
              rintro e wx ⟨rfl, hS⟩
              go_wp2_with fail
              refine hK.out _ _ hS (fun _ => ?_)
              clear hK K
              try simp only [Act.put, List.setIfInBounds_toArray, List.set_cons_zero, List.set_cons_succ]
              refine wpAnyH_take (i := 3) (oi := ⟨_, _, _, _, _, _⟩) (v := ?v3) rfl (by kernel_rfl) (by kernel_rfl) (by kernel_rfl) (fun _ _ _ h => h) ?y3 hS ?_
              case y3 => first | (refine Or.inr ⟨by rfl, ?_⟩; with_reducible rfl) | (refine Or.inl ⟨by rfl, ?_⟩; intro wS hSw; have q0 := cell_later hSw x0; have q1 := cell_later hSw x1; have q2 := cell_later hSw y0; have q3 := cell_later hSw y1; have q4 := cell_later hSw j0; have q5 := cell_later hSw j1; have q6 := cell_later hSw m0; have q7 := cell_later hSw m1; go_simp; try with_reducible rfl)
              simp only [Act.put, List.setIfInBounds_toArray, List.set_cons_zero, List.set_cons_succ]
              refine wpAnyH_take (i := 4) (oi := ⟨_, _, _, _, _, _⟩) (v := ?v4) rfl (by kernel_rfl) (by kernel_rfl) (by kernel_rfl) (fun _ _ _ h => h) ?y4 hS ?_
              case y4 => first | (refine Or.inr ⟨by rfl, ?_⟩; with_reducible rfl) | (refine Or.inl ⟨by rfl, ?_⟩; intro wS hSw; have q0 := cell_later hSw x0; have q1 := cell_later hSw x1; have q2 := cell_later hSw y0; have q3 := cell_later hSw y1; have q4 := cell_later hSw j0; have q5 := cell_later hSw j1; have q6 := cell_later hSw m0; have q7 := cell_later hSw m1; go_simp; try with_reducible rfl)
              simp only [Act.put, List.setIfInBounds_toArray, List.set_cons_zero, List.set_cons_succ]
              refine wpAnyH_take (i := 5) (oi := ⟨_, _, _, _, _, _⟩) (v := ?v5) rfl (by kernel_rfl) (by kernel_rfl) (by kernel_rfl) (fun _ _ _ h => h) ?y5 hS ?_
              case y5 => first | (refine Or.inr ⟨by rfl, ?_⟩; with_reducible rfl) | (refine Or.inl ⟨by rfl, ?_⟩; intro wS hSw; have q0 := cell_later hSw x0; have q1 := cell_later hSw x1; have q2 := cell_later hSw y0; have q3 := cell_later hSw y1; have q4 := cell_later hSw j0; have q5 := cell_later hSw j1; have q6 := cell_later hSw m0; have q7 := cell_later hSw m1; go_simp; try with_reducible rfl)
              simp only [Act.put, List.setIfInBounds_toArray, List.set_cons_zero, List.set_cons_succ]
              refine wpAnyH_take (i := 6) (oi := ⟨_, _, _, _, _, _⟩) (v := ?v6) rfl (by kernel_rfl) (by kernel_rfl) (by kernel_rfl) (fun _ _ _ h => h) ?y6 hS ?_
              case y6 => first | (refine Or.inr ⟨by rfl, ?_⟩; with_reducible rfl) | (refine Or.inl ⟨by rfl, ?_⟩; intro wS hSw; have q0 := cell_later hSw x0; have q1 := cell_later hSw x1; have q2 := cell_later hSw y0; have q3 := cell_later hSw y1; have q4 := cell_later hSw j0; have q5 := cell_later hSw j1; have q6 := cell_later hSw m0; have q7 := cell_later hSw m1; go_simp; try with_reducible rfl)
              simp only [Act.put, List.setIfInBounds_toArray, List.set_cons_zero, List.set_cons_succ]
              refine wpAnyH_ready (rs := [7]) (by kernel_rfl) (by simp) ?_
              refine AllReadyH.cons (o := ⟨_, _, _, _, _, _⟩) rfl (fun K hK => ?_) AllReadyH.nil
              go_simp
              refine (L2.out _ hS).mono ?_
              rintro e wx ⟨rfl, hS⟩
              go_wp2_with fail
              refine hK.out _ _ hS (fun _ => ?_)
              clear hK K
              try simp only [Act.put, List.setIfInBounds_toArray, List.set_cons_zero, List.set_cons_succ]
              refine wpAnyH_take (i := 8) (oi := ⟨_, _, _, _, _, _⟩) (v := ?v7) rfl (by kernel_rfl) (by kernel_rfl) (by kernel_rfl) (fun _ _ _ h => h) ?y7 hS ?_
              case y7 => first | (refine Or.inr ⟨by rfl, ?_⟩; with_reducible rfl) | (refine Or.inl ⟨by rfl, ?_⟩; intro wS hSw; have q0 := cell_later hSw x0; have q1 := cell_later hSw x1; have q2 := cell_later hSw y0; have q3 := cell_later hSw y1; have q4 := cell_later hSw j0; have q5 := cell_later hSw j1; have q6 := cell_later hSw m0; have q7 := cell_later hSw m1; go_simp; try with_reducible rfl)
              simp only [Act.put, List.setIfInBounds_toArray, List.set_cons_zero, List.set_cons_succ]
              refine wpAnyH_take (i := 9) (oi := ⟨_, _, _, _, _, _⟩) (v := ?v8) rfl (by kernel_rfl) (by kernel_rfl) (by kernel_rfl) (fun _ _ _ h => h) ?y8 hS ?_
              case y8 => first | (refine Or.inr ⟨by rfl, ?_⟩; with_reducible rfl) | (refine Or.inl ⟨by rfl, ?_⟩; intro wS hSw; have q0 := cell_later hSw x0; have q1 := cell_later hSw x1; have q2 := cell_later hSw y0; have q3 := cell_later hSw y1; have q4 := cell_later hSw j0; have q5 := cell_later hSw j1; have q6 := cell_later hSw m0; have q7 := cell_later hSw m1; go_simp; try with_reducible rfl)
              simp only [Act.put, List.setIfInBounds_toArray, List.set_cons_zero, List.set_cons_succ]
              refine wpAnyH_take (i := 10) (oi := ⟨_, _, _, _, _, _⟩) (v := ?v9) rfl (by kernel_rfl) (by kernel_rfl) (by kernel_rfl) (fun _ _ _ h => h) ?y9 hS ?_
              case y9 => first | (refine Or.inr ⟨by rfl, ?_⟩; with_reducible rfl) | (refine Or.inl ⟨by rfl, ?_⟩; intro wS hSw; have q0 := cell_later hSw x0; have q1 := cell_later hSw x1; have q2 := cell_later hSw y0; have q3 := cell_later hSw y1; have q4 := cell_later hSw j0; have q5 := cell_later hSw j1; have q6 := cell_later hSw m0; have q7 := cell_later hSw m1; go_simp; try with_reducible rfl)
              simp only [Act.put, List.setIfInBounds_toArray, List.set_cons_zero, List.set_cons_succ]
              refine wpAnyH_take (i := 11) (oi := ⟨_, _, _, _, _, _⟩) (v := ?v10) rfl (by kernel_rfl) (by kernel_rfl) (by kernel_rfl) (fun _ _ _ h => h) ?y10 hS ?_
              case y10 => first | (refine Or.inr ⟨by rfl, ?_⟩; with_reducible rfl) | (refine Or.inl ⟨by rfl, ?_⟩; intro wS hSw; have q0 := cell_later hSw x0; have q1 := cell_later hSw x1; have q2 := cell_later hSw y0; have q3 := cell_later hSw y1; have q4 := cell_later hSw j0; have q5 := cell_later hSw j1; have q6 := cell_later hSw m0; have q7 := cell_later hSw m1; go_simp; try with_reducible rfl)
              simp only [Act.put, List.setIfInBounds_toArray, List.set_cons_zero, List.set_cons_succ]
              refine wpAnyH_take (i := 12) (oi := ⟨_, _, _, _, _, _⟩) (v := ?v11) rfl (by kernel_rfl) (by kernel_rfl) (by kernel_rfl) (fun _ _ _ h => h) ?y11 hS ?_
              case y11 => first | (refine Or.inr ⟨by rfl, ?_⟩; with_reducible rfl) | (refine Or.inl ⟨by rfl, ?_⟩; intro wS hSw; have q0 := cell_later hSw x0; have q1 := cell_later hSw x1; have q2 := cell_later hSw y0; have q3 := cell_later hSw y1; have q4 := cell_later hSw j0; have q5 := cell_later hSw j1; have q6 := cell_later hSw m0; have q7 := cell_later hSw m1; go_simp; try with_reducible rfl)
              simp only [Act.put, List.setIfInBounds_toArray, List.set_cons_zero, List.set_cons_succ]
              refine wpAnyH_take (i := 13) (oi := ⟨_, _, _, _, _, _⟩) (v := ?v12) rfl (by kernel_rfl) (by kernel_rfl) (by kernel_rfl) (fun _ _ _ h => h) ?y12 hS ?_
              case y12 => first | (refine Or.inr ⟨by rfl, ?_⟩; with_reducible rfl) | (refine Or.inl ⟨by rfl, ?_⟩; intro wS hSw; have q0 := cell_later hSw x0; have q1 := cell_later hSw x1; have q2 := cell_later hSw y0; have q3 := cell_later hSw y1; have q4 := cell_later hSw j0; have q5 := cell_later hSw j1; have q6 := cell_later hSw m0; have q7 := cell_later hSw m1; go_simp; try with_reducible rfl)
              simp only [Act.put, List.setIfInBounds_toArray, List.set_cons_zero, List.set_cons_succ]
              refine wpAnyH_take (i := 14) (oi := ⟨_, _, _, _, _, _⟩) (v := ?v13) rfl (by kernel_rfl) (by kernel_rfl) (by kernel_rfl) (fun _ _ _ h => h) ?y13 hS ?_
              case y13 => first | (refine Or.inr ⟨by rfl, ?_⟩; with_reducible rfl) | (refine Or.inl ⟨by rfl, ?_⟩; intro wS hSw; have q0 := cell_later hSw x0; have q1 := cell_later hSw x1; have q2 := cell_later hSw y0; have q3 := cell_later hSw y1; have q4 := cell_later hSw j0; have q5 := cell_later hSw j1; have q6 := cell_later hSw m0; have q7 := cell_later hSw m1; go_simp; try with_reducible rfl)
              simp only [Act.put, List.setIfInBounds_toArray, List.set_cons_zero, List.set_cons_succ]
              refine wpAnyH_ready (rs := [15]) (by kernel_rfl) (by simp) ?_
              refine AllReadyH.cons (o := ⟨_, _, _, _, _, _⟩) rfl (fun K hK => ?_) AllReadyH.nil
              go_simp
              refine (L3.out _ hS).mono ?_
              rintro e wx ⟨rfl, hS⟩
              go_wp2_with fail
              refine hK.out _ _ hS (fun _ => ?_)
              clear hK K
              try simp only [Act.put, List.setIfInBounds_toArray, List.set_cons_zero, List.set_cons_succ]
              refine wpAnyH_take (i := 16) (oi := ⟨_, _, _, _, _, _⟩) (v := ?v14) rfl (by kernel_rfl) (by kernel_rfl) (by kernel_rfl) (fun _ _ _ h => h) ?y14 hS ?_
              case y14 => first | (refine Or.inr ⟨by rfl, ?_⟩; with_reducible rfl) | (refine Or.inl ⟨by rfl, ?_⟩; intro wS hSw; have q0 := cell_later hSw x0; have q1 := cell_later hSw x1; have q2 := cell_later hSw y0; have q3 := cell_later hSw y1; have q4 := cell_later hSw j0; have q5 := cell_later hSw j1; have q6 := cell_later hSw m0; have q7 := cell_later hSw m1; go_simp; try with_reducible rfl)
              simp only [Act.put, List.setIfInBounds_toArray, List.set_cons_zero, List.set_cons_succ]
              refine wpAnyH_take (i := 17) (oi := ⟨_, _, _, _, _, _⟩) (v := ?v15) rfl (by kernel_rfl) (by kernel_rfl) (by kernel_rfl) (fun _ _ _ h => h) ?y15 hS ?_
              case y15 => first | (refine Or.inr ⟨by rfl, ?_⟩; with_reducible rfl) | (refine Or.inl ⟨by rfl, ?_⟩; intro wS hSw; have q0 := cell_later hSw x0; have q1 := cell_later hSw x1; have q2 := cell_later hSw y0; have q3 := cell_later hSw y1; have q4 := cell_later hSw j0; have q5 := cell_later hSw j1; have q6 := cell_later hSw m0; have q7 := cell_later hSw m1; go_simp; try with_reducible rfl)
              simp only [Act.put, List.setIfInBounds_toArray, List.set_cons_zero, List.set_cons_succ]
              refine wpAnyH_take (i := 18) (oi := ⟨_, _, _, _, _, _⟩) (v := ?v16) rfl (by kernel_rfl) (by kernel_rfl) (by kernel_rfl) (fun _ _ _ h => h) ?y16 hS ?_
              case y16 => first | (refine Or.inr ⟨by rfl, ?_⟩; with_reducible rfl) | (refine Or.inl ⟨by rfl, ?_⟩; intro wS hSw; have q0 := cell_later hSw x0; have q1 := cell_later hSw x1; have q2 := cell_later hSw y0; have q3 := cell_later hSw y1; have q4 := cell_later hSw j0; have q5 := cell_later hSw j1; have q6 := cell_later hSw m0; have q7 := cell_later hSw m1; go_simp; try with_reducible rfl)
              simp only [Act.put, List.setIfInBounds_toArray, List.set_cons_zero, List.set_cons_succ]
              refine wpAnyH_take (i := 19) (oi := ⟨_, _, _, _, _, _⟩) (v := ?v17) rfl (by kernel_rfl) (by kernel_rfl) (by kernel_rfl) (fun _ _ _ h => h) ?y17 hS ?_
              case y17 => first | (refine Or.inr ⟨by rfl, ?_⟩; with_reducible rfl) | (refine Or.inl ⟨by rfl, ?_⟩; intro wS hSw; have q0 := cell_later hSw x0; have q1 := cell_later hSw x1; have q2 := cell_later hSw y0; have q3 := cell_later hSw y1; have q4 := cell_later hSw j0; have q5 := cell_later hSw j1; have q6 := cell_later hSw m0; have q7 := cell_later hSw m1; go_simp; try with_reducible rfl)
              simp only [Act.put, List.setIfInBounds_toArray, List.set_cons_zero, List.set_cons_succ]
              refine wpAnyH_ready (rs := [20]) (by kernel_rfl) (by simp) ?_
              refine AllReadyH.cons (o := ⟨_, _, _, _, _, _⟩) rfl (fun K hK => ?_) AllReadyH.nil
              go_simp
              refine (L4.out _ hS).mono ?_
              rintro e wx ⟨rfl, hS⟩
              go_wp2_with fail
              refine hK.out _ _ hS (fun _ => ?_)
              clear hK K
              try simp only [Act.put, List.setIfInBounds_toArray, List.set_cons_zero, List.set_cons_succ]
              refine wpAnyH_take (i := 21) (oi := ⟨_, _, _, _, _, _⟩) (v := ?v18) rfl (by kernel_rfl) (by kernel_rfl) (by kernel_rfl) (fun _ _ _ h => h) ?y18 hS ?_
              case y18 => first | (refine Or.inr ⟨by rfl, ?_⟩; with_reducible rfl) | (refine Or.inl ⟨by rfl, ?_⟩; intro wS hSw; have q0 := cell_later hSw x0; have q1 := cell_later hSw x1; have q2 := cell_later hSw y0; have q3 := cell_later hSw y1; have q4 := cell_later hSw j0; have q5 := cell_later hSw j1; have q6 := cell_later hSw m0; have q7 := cell_later hSw m1; go_simp; try with_reducible rfl)
              simp only [Act.put, List.setIfInBounds_toArray, List.set_cons_zero, List.set_cons_succ]
              refine wpAnyH_take (i := 22) (oi := ⟨_, _, _, _, _, _⟩) (v := ?v19) rfl (by kernel_rfl) (by kernel_rfl) (by kernel_rfl) (fun _ _ _ h => h) ?y19 hS ?_
              case y19 => first | (refine Or.inr ⟨by rfl, ?_⟩; with_reducible rfl) | (refine Or.inl ⟨by rfl, ?_⟩; intro wS hSw; have q0 := cell_later hSw x0; have q1 := cell_later hSw x1; have q2 := cell_later hSw y0; have q3 := cell_later hSw y1; have q4 := cell_later hSw j0; have q5 := cell_later hSw j1; have q6 := cell_later hSw m0; have q7 := cell_later hSw m1; go_simp; try with_reducible rfl)
              simp only [Act.put, List.setIfInBounds_toArray, List.set_cons_zero, List.set_cons_succ]
              refine wpAnyH_take (i := 23) (oi := ⟨_, _, _, _, _, _⟩) (v := ?v20) rfl (by kernel_rfl) (by kernel_rfl) (by kernel_rfl) (fun _ _ _ h => h) ?y20 hS ?_
              case y20 => first | (refine Or.inr ⟨by rfl, ?_⟩; with_reducible rfl) | (refine Or.inl ⟨by rfl, ?_⟩; intro wS hSw; have q0 := cell_later hSw x0; have q1 := cell_later hSw x1; have q2 := cell_later hSw y0; have q3 := cell_later hSw y1; have q4 := cell_later hSw j0; have q5 := cell_later hSw j1; have q6 := cell_later hSw m0; have q7 := cell_later hSw m1; go_simp; try with_reducible rfl)
              simp only [Act.put, List.setIfInBounds_toArray, List.set_cons_zero, List.set_cons_succ]
              refine wpAnyH_take (i := 24) (oi := ⟨_, _, _, _, _, _⟩) (v := ?v21) rfl (by kernel_rfl) (by kernel_rfl) (by kernel_rfl) (fun _ _ _ h => h) ?y21 hS ?_
              case y21 => first | (refine Or.inr ⟨by rfl, ?_⟩; with_reducible rfl) | (refine Or.inl ⟨by rfl, ?_⟩; intro wS hSw; have q0 := cell_later hSw x0; have q1 := cell_later hSw x1; have q2 := cell_later hSw y0; have q3 := cell_later hSw y1; have q4 := cell_later hSw j0; have q5 := cell_later hSw j1; have q6 := cell_later hSw m0; have q7 := cell_later hSw m1; go_simp; try with_reducible rfl)
              simp only [Act.put, List.setIfInBounds_toArray, List.set_cons_zero, List.set_cons_succ]
              refine wpAnyH_take (i := 25) (oi := ⟨_, _, _, _, _, _⟩) (v := ?v22) rfl (by kernel_rfl) (by kernel_rfl) (by kernel_rfl) (fun _ _ _ h => h) ?y22 hS ?_
              case y22 => first | (refine Or.inr ⟨by rfl, ?_⟩; with_reducible rfl) | (refine Or.inl ⟨by rfl, ?_⟩; intro wS hSw; have q0 := cell_later hSw x0; have q1 := cell_later hSw x1; have q2 := cell_later hSw y0; have q3 := cell_later hSw y1; have q4 := cell_later hSw j0; have q5 := cell_later hSw j1; have q6 := cell_later hSw m0; have q7 := cell_later hSw m1; go_simp; try with_reducible rfl)
              simp only [Act.put, List.setIfInBounds_toArray, List.set_cons_zero, List.set_cons_succ]
              refine wpAnyH_take (i := 26) (oi := ⟨_, _, _, _, _, _⟩) (v := ?v23) rfl (by kernel_rfl) (by kernel_rfl) (by kernel_rfl) (fun _ _ _ h => h) ?y23 hS ?_
              case y23 => first | (refine Or.inr ⟨by rfl, ?_⟩; with_reducible rfl) | (refine Or.inl ⟨by rfl, ?_⟩; intro wS hSw; have q0 := cell_later hSw x0; have q1 := cell_later hSw x1; have q2 := cell_later hSw y0; have q3 := cell_later hSw y1; have q4 := cell_later hSw j0; have q5 := cell_later hSw j1; have q6 := cell_later hSw m0; have q7 := cell_later hSw m1; go_simp; try with_reducible rfl)
              simp only [Act.put, List.setIfInBounds_toArray, List.set_cons_zero, List.set_cons_succ]
              refine wpAnyH_take (i := 27) (oi := ⟨_, _, _, _, _, _⟩) (v := ?v24) rfl (by kernel_rfl) (by kernel_rfl) (by kernel_rfl) (fun _ _ _ h => h) ?y24 hS ?_
              case y24 => first | (refine Or.inr ⟨by rfl, ?_⟩; with_reducible rfl) | (refine Or.inl ⟨by rfl, ?_⟩; intro wS hSw; have q0 := cell_later hSw x0; have q1 := cell_later hSw x1; have q2 := cell_later hSw y0; have q3 := cell_later hSw y1; have q4 := cell_later hSw j0; have q5 := cell_later hSw j1; have q6 := cell_later hSw m0; have q7 := cell_later hSw m1; go_simp; try with_reducible rfl)
              simp only [Act.put, List.setIfInBounds_toArray, List.set_cons_zero, List.set_cons_succ]
              refine wpAnyH_take (i := 28) (oi := ⟨_, _, _, _, _, _⟩) (v := ?v25) rfl (by kernel_rfl) (by kernel_rfl) (by kernel_rfl) (fun _ _ _ h => h) ?y25 hS ?_
              case y25 => first | (refine Or.inr ⟨by rfl, ?_⟩; with_reducible rfl) | (refine Or.inl ⟨by rfl, ?_⟩; intro wS hSw; have q0 := cell_later hSw x0; have q1 := cell_later hSw x1; have q2 := cell_later hSw y0; have q3 := cell_later hSw y1; have q4 := cell_later hSw j0; have q5 := cell_later hSw j1; have q6 := cell_later hSw m0; have q7 := cell_later hSw m1; go_simp; try with_reducible rfl)
              simp only [Act.put, List.setIfInBounds_toArray, List.set_cons_zero, List.set_cons_succ]
              refine wpAnyH_take (i := 29) (oi := ⟨_, _, _, _, _, _⟩) (v := ?v26) rfl (by kernel_rfl) (by kernel_rfl) (by kernel_rfl) (fun _ _ _ h => h) ?y26 hS ?_
              case y26 => first | (refine Or.inr ⟨by rfl, ?_⟩; with_reducible rfl) | (refine Or.inl ⟨by rfl, ?_⟩; intro wS hSw; have q0 := cell_later hSw x0; have q1 := cell_later hSw x1; have q2 := cell_later hSw y0; have q3 := cell_later hSw y1; have q4 := cell_later hSw j0; have q5 := cell_later hSw j1; have q6 := cell_later hSw m0; have q7 := cell_later hSw m1; go_simp; try with_reducible rfl)
              simp only [Act.put, List.setIfInBounds_toArray, List.set_cons_zero, List.set_cons_succ]
              refine wpAnyH_take (i := 30) (oi := ⟨_, _, _, _, _, _⟩) (v := ?v27) rfl (by kernel_rfl) (by kernel_rfl) (by kernel_rfl) (fun _ _ _ h => h) ?y27 hS ?_
              case y27 => first | (refine Or.inr ⟨by rfl, ?_⟩; with_reducible rfl) | (refine Or.inl ⟨by rfl, ?_⟩; intro wS hSw; have q0 := cell_later hSw x0; have q1 := cell_later hSw x1; have q2 := cell_later hSw y0; have q3 := cell_later hSw y1; have q4 := cell_later hSw j0; have q5 := cell_later hSw j1; have q6 := cell_later hSw m0; have q7 := cell_later hSw m1; go_simp; try with_reducible rfl)
              simp only [Act.put, List.setIfInBounds_toArray, List.set_cons_zero, List.set_cons_succ]
              refine wpAnyH_take (i := 31) (oi := ⟨_, _, _, _, _, _⟩) (v := ?v28) rfl (by kernel_rfl) (by kernel_rfl) (by kernel_rfl) (fun _ _ _ h => h) ?y28 hS ?_
              case y28 => first | (refine Or.inr ⟨by rfl, ?_⟩; with_reducible rfl) | (refine Or.inl ⟨by rfl, ?_⟩; intro wS hSw; have q0 := cell_later hSw x0; have q1 := cell_later hSw x1; have q2 := cell_later hSw y0; have q3 := cell_later hSw y1; have q4 := cell_later hSw j0; have q5 := cell_later hSw j1; have q6 := cell_later hSw m0; have q7 := cell_later hSw m1; go_simp; try with_reducible rfl)
              simp only [Act.put, List.setIfInBounds_toArray, List.set_cons_zero, List.set_cons_succ]
              refine wpAnyH_take (i := 33) (oi := ⟨_, _, _, _, _, _⟩) (v := ?v29) rfl (by kernel_rfl) (by kernel_rfl) (by kernel_rfl) (fun _ _ _ h => h) ?y29 hS ?_
              case y29 => first | (refine Or.inr ⟨by rfl, ?_⟩; with_reducible rfl) | (refine Or.inl ⟨by rfl, ?_⟩; intro wS hSw; have q0 := cell_later hSw x0; have q1 := cell_later hSw x1; have q2 := cell_later hSw y0; have q3 := cell_later hSw y1; have q4 := cell_later hSw j0; have q5 := cell_later hSw j1; have q6 := cell_later hSw m0; have q7 := cell_later hSw m1; go_simp; try with_reducible rfl)
              simp only [Act.put, List.setIfInBounds_toArray, List.set_cons_zero, List.set_cons_succ]
              refine wpAnyH_take (i := 34) (oi := ⟨_, _, _, _, _, _⟩) (v := ?v30) rfl (by kernel_rfl) (by kernel_rfl) (by kernel_rfl) (fun _ _ _ h => h) ?y30 hS ?_
              case y30 => first | (refine Or.inr ⟨by rfl, ?_⟩; with_reducible rfl) | (refine Or.inl ⟨by rfl, ?_⟩; intro wS hSw; have q0 := cell_later hSw x0; have q1 := cell_later hSw x1; have q2 := cell_later hSw y0; have q3 := cell_later hSw y1; have q4 := cell_later hSw j0; have q5 := cell_later hSw j1; have q6 := cell_later hSw m0; have q7 := cell_later hSw m1; go_simp; try with_reducible rfl)
              simp only [Act.put, List.setIfInBounds_toArray, List.set_cons_zero, List.set_cons_succ]
              refine wpAnyH_ready (rs := [32]) (by kernel_rfl) (by simp) ?_
              refine AllReadyH.cons (o := ⟨_, _, _, _, _, _⟩) rfl (fun K hK => ?_) AllReadyH.nil
              go_simp
              refine hK.out _ _ hS (fun _ => ?_)
              clear hK K
              try simp only [Act.put, List.setIfInBounds_toArray, List.set_cons_zero, List.set_cons_succ]
              refine wpAnyH_ready (rs := [35]) (by kernel_rfl) (by simp) ?_
              refine AllReadyH.cons (o := ⟨_, _, _, _, _, _⟩) rfl (fun K hK => ?_) AllReadyH.nil
              go_simp
              refine hK.out _ _ hS (fun _ => ?_)
              clear hK K
              try simp only [Act.put, List.setIfInBounds_toArray, List.set_cons_zero, List.set_cons_succ]
              refine wpAnyH_take (i := 36) (oi := ⟨_, _, _, _, _, _⟩) (v := ?v31) rfl (by kernel_rfl) (by kernel_rfl) (by kernel_rfl) (fun _ _ _ h => h) ?y31 hS ?_
              case y31 => first | (refine Or.inr ⟨by rfl, ?_⟩; with_reducible rfl) | (refine Or.inl ⟨by rfl, ?_⟩; intro wS hSw; have q0 := cell_later hSw x0; have q1 := cell_later hSw x1; have q2 := cell_later hSw y0; have q3 := cell_later hSw y1; have q4 := cell_later hSw j0; have q5 := cell_later hSw j1; have q6 := cell_later hSw m0; have q7 := cell_later hSw m1; go_simp; try with_reducible rfl)
              simp only [Act.put, List.setIfInBounds_toArray, List.set_cons_zero, List.set_cons_succ]
              refine wpAnyH_take (i := 37) (oi := ⟨_, _, _, _, _, _⟩) (v := ?v32) rfl (by kernel_rfl) (by kernel_rfl) (by kernel_rfl) (fun _ _ _ h => h) ?y32 hS ?_
              case y32 => first | (refine Or.inr ⟨by rfl, ?_⟩; with_reducible rfl) | (refine Or.inl ⟨by rfl, ?_⟩; intro wS hSw; have q0 := cell_later hSw x0; have q1 := cell_later hSw x1; have q2 := cell_later hSw y0; have q3 := cell_later hSw y1; have q4 := cell_later hSw j0; have q5 := cell_later hSw j1; have q6 := cell_later hSw m0; have q7 := cell_later hSw m1; go_simp; try with_reducible rfl)
              simp only [Act.put, List.setIfInBounds_toArray, List.set_cons_zero, List.set_cons_succ]
              refine wpAnyH_take (i := 38) (oi := ⟨_, _, _, _, _, _⟩) (v := ?v33) rfl (by kernel_rfl) (by kernel_rfl) (by kernel_rfl) (fun _ _ _ h => h) ?y33 hS ?_
              case y33 => first | (refine Or.inr ⟨by rfl, ?_⟩; with_reducible rfl) | (refine Or.inl ⟨by rfl, ?_⟩; intro wS hSw; have q0 := cell_later hSw x0; have q1 := cell_later hSw x1; have q2 := cell_later hSw y0; have q3 := cell_later hSw y1; have q4 := cell_later hSw j0; have q5 := cell_later hSw j1; have q6 := cell_later hSw m0; have q7 := cell_later hSw m1; go_simp; try with_reducible rfl)
              simp only [Act.put, List.setIfInBounds_toArray, List.set_cons_zero, List.set_cons_succ]
              refine wpAnyH_take (i := 39) (oi := ⟨_, _, _, _, _, _⟩) (v := ?v34) rfl (by kernel_rfl) (by kernel_rfl) (by kernel_rfl) (fun _ _ _ h => h) ?y34 hS ?_
              case y34 => first | (refine Or.inr ⟨by rfl, ?_⟩; with_reducible rfl) | (refine Or.inl ⟨by rfl, ?_⟩; intro wS hSw; have q0 := cell_later hSw x0; have q1 := cell_later hSw x1; have q2 := cell_later hSw y0; have q3 := cell_later hSw y1; have q4 := cell_later hSw j0; have q5 := cell_later hSw j1; have q6 := cell_later hSw m0; have q7 := cell_later hSw m1; go_simp; try with_reducible rfl)
              simp only [Act.put, List.setIfInBounds_toArray, List.set_cons_zero, List.set_cons_succ]
              refine wpAnyH_take (i := 40) (oi := ⟨_, _, _, _, _, _⟩) (v := ?v35) rfl (by kernel_rfl) (by kernel_rfl) (by kernel_rfl) (fun _ _ _ h => h) ?y35 hS ?_
              case y35 => first | (refine Or.inr ⟨by rfl, ?_⟩; with_reducible rfl) | (refine Or.inl ⟨by rfl, ?_⟩; intro wS hSw; have q0 := cell_later hSw x0; have q1 := cell_later hSw x1; have q2 := cell_later hSw y0; have q3 := cell_later hSw y1; have q4 := cell_later hSw j0; have q5 := cell_later hSw j1; have q6 := cell_later hSw m0; have q7 := cell_later hSw m1; go_simp; try with_reducible rfl)
              simp only [Act.put, List.setIfInBounds_toArray, List.set_cons_zero, List.set_cons_succ]
              refine wpAnyH_take (i := 41) (oi := ⟨_, _, _, _, _, _⟩) (v := ?v36) rfl (by kernel_rfl) (by kernel_rfl) (by kernel_rfl) (fun _ _ _ h => h) ?y36 hS ?_
              case y36 => first | (refine Or.inr ⟨by rfl, ?_⟩; with_reducible rfl) | (refine Or.inl ⟨by rfl, ?_⟩; intro wS hSw; have q0 := cell_later hSw x0; have q1 := cell_later hSw x1; have q2 := cell_later hSw y0; have q3 := cell_later hSw y1; have q4 := cell_later hSw j0; have q5 := cell_later hSw j1; have q6 := cell_later hSw m0; have q7 := cell_later hSw m1; go_simp; try with_reducible rfl)
              simp only [Act.put, List.setIfInBounds_toArray, List.set_cons_zero, List.set_cons_succ]
              refine wpAnyH_ready (rs := [42]) (by kernel_rfl) (by simp) ?_
              refine AllReadyH.cons (o := ⟨_, _, _, _, _, _⟩) rfl (fun K hK => ?_) AllReadyH.nil
              go_simp
              refine (L7.out _ hS).mono ?_
              rintro e wx ⟨rfl, hS⟩
              go_wp2_with fail
              refine hK.out _ _ hS (fun _ => ?_)
              clear hK K
              try simp only [Act.put, List.setIfInBounds_toArray, List.set_cons_zero, List.set_cons_succ]
              refine wpAnyH_take (i := 43) (oi := ⟨_, _, _, _, _, _⟩) (v := ?v37) rfl (by kernel_rfl) (by kernel_rfl) (by kernel_rfl) (fun _ _ _ h => h) ?y37 hS ?_
              case y37 => first | (refine Or.inr ⟨by rfl, ?_⟩; with_reducible rfl) | (refine Or.inl ⟨by rfl, ?_⟩; intro wS hSw; have q0 := cell_later hSw x0; have q1 := cell_later hSw x1; have q2 := cell_later hSw y0; have q3 := cell_later hSw y1; have q4 := cell_later hSw j0; have q5 := cell_later hSw j1; have q6 := cell_later hSw m0; have q7 := cell_later hSw m1; go_simp; try with_reducible rfl)
              simp only [Act.put, List.setIfInBounds_toArray, List.set_cons_zero, List.set_cons_succ]
              refine wpAnyH_take (i := 44) (oi := ⟨_, _, _, _, _, _⟩) (v := ?v38) rfl (by kernel_rfl) (by kernel_rfl) (by kernel_rfl) (fun _ _ _ h => h) ?y38 hS ?_
              case y38 => first | (refine Or.inr ⟨by rfl, ?_⟩; with_reducible rfl) | (refine Or.inl ⟨by rfl, ?_⟩; intro wS hSw; have q0 := cell_later hSw x0; have q1 := cell_later hSw x1; have q2 := cell_later hSw y0; have q3 := cell_later hSw y1; have q4 := cell_later hSw j0; have q5 := cell_later hSw j1; have q6 := cell_later hSw m0; have q7 := cell_later hSw m1; go_simp; try with_reducible rfl)
              simp only [Act.put, List.setIfInBounds_toArray, List.set_cons_zero, List.set_cons_succ]
              refine wpAnyH_take (i := 45) (oi := ⟨_, _, _, _, _, _⟩) (v := ?v39) rfl (by kernel_rfl) (by kernel_rfl) (by kernel_rfl) (fun _ _ _ h => h) ?y39 hS ?_
              case y39 => first | (refine Or.inr ⟨by rfl, ?_⟩; with_reducible rfl) | (refine Or.inl ⟨by rfl, ?_⟩; intro wS hSw; have q0 := cell_later hSw x0; have q1 := cell_later hSw x1; have q2 := cell_later hSw y0; have q3 := cell_later hSw y1; have q4 := cell_later hSw j0; have q5 := cell_later hSw j1; have q6 := cell_later hSw m0; have q7 := cell_later hSw m1; go_simp; try with_reducible rfl)
              simp only [Act.put, List.setIfInBounds_toArray, List.set_cons_zero, List.set_cons_succ]
              refine wpAnyH_take (i := 46) (oi := ⟨_, _, _, _, _, _⟩) (v := ?v40) rfl (by kernel_rfl) (by kernel_rfl) (by kernel_rfl) (fun _ _ _ h => h) ?y40 hS ?_
              case y40 => first | (refine Or.inr ⟨by rfl, ?_⟩; with_reducible rfl) | (refine Or.inl ⟨by rfl, ?_⟩; intro wS hSw; have q0 := cell_later hSw x0; have q1 := cell_later hSw x1; have q2 := cell_later hSw y0; have q3 := cell_later hSw y1; have q4 := cell_later hSw j0; have q5 := cell_later hSw j1; have q6 := cell_later hSw m0; have q7 := cell_later hSw m1; go_simp; try with_reducible rfl)
              simp only [Act.put, List.setIfInBounds_toArray, List.set_cons_zero, List.set_cons_succ]
              refine wpAnyH_take (i := 47) (oi := ⟨_, _, _, _, _, _⟩) (v := ?v41) rfl (by kernel_rfl) (by kernel_rfl) (by kernel_rfl) (fun _ _ _ h => h) ?y41 hS ?_
              case y41 => first | (refine Or.inr ⟨by rfl, ?_⟩; with_reducible rfl) | (refine Or.inl ⟨by rfl, ?_⟩; intro wS hSw; have q0 := cell_later hSw x0; have q1 := cell_later hSw x1; have q2 := cell_later hSw y0; have q3 := cell_later hSw y1; have q4 := cell_later hSw j0; have q5 := cell_later hSw j1; have q6 := cell_later hSw m0; have q7 := cell_later hSw m1; go_simp; try with_reducible rfl)
              simp only [Act.put, List.setIfInBounds_toArray, List.set_cons_zero, List.set_cons_succ]
              refine wpAnyH_take (i := 48) (oi := ⟨_, _, _, _, _, _⟩) (v := ?v42) rfl (by kernel_rfl) (by kernel_rfl) (by kernel_rfl) (fun _ _ _ h => h) ?y42 hS ?_
              case y42 => first | (refine Or.inr ⟨by rfl, ?_⟩; with_reducible rfl) | (refine Or.inl ⟨by rfl, ?_⟩; intro wS hSw; have q0 := cell_later hSw x0; have q1 := cell_later hSw x1; have q2 := cell_later hSw y0; have q3 := cell_later hSw y1; have q4 := cell_later hSw j0; have q5 := cell_later hSw j1; have q6 := cell_later hSw m0; have q7 := cell_later hSw m1; go_simp; try with_reducible rfl)
              simp only [Act.put, List.setIfInBounds_toArray, List.set_cons_zero, List.set_cons_succ]
              refine wpAnyH_take (i := 49) (oi := ⟨_, _, _, _, _, _⟩) (v := ?v43) rfl (by kernel_rfl) (by kernel_rfl) (by kernel_rfl) (fun _ _ _ h => h) ?y43 hS ?_
              case y43 => first | (refine Or.inr ⟨by rfl, ?_⟩; with_reducible rfl) | (refine Or.inl ⟨by rfl, ?_⟩; intro wS hSw; have q0 := cell_later hSw x0; have q1 := cell_later hSw x1; have q2 := cell_later hSw y0; have q3 := cell_later hSw y1; have q4 := cell_later hSw j0; have q5 := cell_later hSw j1; have q6 := cell_later hSw m0; have q7 := cell_later hSw m1; go_simp; try with_reducible rfl)
              simp only [Act.put, List.setIfInBounds_toArray, List.set_cons_zero, List.set_cons_succ]
              refine wpAnyH_take (i := 50) (oi := ⟨_, _, _, _, _, _⟩) (v := ?v44) rfl (by kernel_rfl) (by kernel_rfl) (by kernel_rfl) (fun _ _ _ h => h) ?y44 hS ?_
              case y44 => first | (refine Or.inr ⟨by rfl, ?_⟩; with_reducible rfl) | (refine Or.inl ⟨by rfl, ?_⟩; intro wS hSw; have q0 := cell_later hSw x0; have q1 := cell_later hSw x1; have q2 := cell_later hSw y0; have q3 := cell_later hSw y1; have q4 := cell_later hSw j0; have q5 := cell_later hSw j1; have q6 := cell_later hSw m0; have q7 := cell_later hSw m1; go_simp; try with_reducible rfl)
              simp only [Act.put, List.setIfInBounds_toArray, List.set_cons_zero, List.set_cons_succ]
              refine wpAnyH_take (i := 51) (oi := ⟨_, _, _, _, _, _⟩) (v := ?v45) rfl (by kernel_rfl) (by kernel_rfl) (by kernel_rfl) (fun _ _ _ h => h) ?y45 hS ?_
              case y45 => first | (refine Or.inr ⟨by rfl, ?_⟩; with_reducible rfl) | (refine Or.inl ⟨by rfl, ?_⟩; intro wS hSw; have q0 := cell_later hSw x0; have q1 := cell_later hSw x1; have q2 := cell_later hSw y0; have q3 := cell_later hSw y1; have q4 := cell_later hSw j0; have q5 := cell_later hSw j1; have q6 := cell_later hSw m0; have q7 := cell_later hSw m1; go_simp; try with_reducible rfl)
              simp only [Act.put, List.setIfInBounds_toArray, List.set_cons_zero, List.set_cons_succ]
              refine wpAnyH_take (i := 52) (oi := ⟨_, _, _, _, _, _⟩) (v := ?v46) rfl (by kernel_rfl) (by kernel_rfl) (by kernel_rfl) (fun _ _ _ h => h) ?y46 hS ?_
              case y46 => first | (refine Or.inr ⟨by rfl, ?_⟩; with_reducible rfl) | (refine Or.inl ⟨by rfl, ?_⟩; intro wS hSw; have q0 := cell_later hSw x0; have q1 := cell_later hSw x1; have q2 := cell_later hSw y0; have q3 := cell_later hSw y1; have q4 := cell_later hSw j0; have q5 := cell_later hSw j1; have q6 := cell_later hSw m0; have q7 := cell_later hSw m1; go_simp; try with_reducible rfl)
              simp only [Act.put, List.setIfInBounds_toArray, List.set_cons_zero, List.set_cons_succ]
              refine wpAnyH_take (i := 53) (oi := ⟨_, _, _, _, _, _⟩) (v := ?v47) rfl (by kernel_rfl) (by kernel_rfl) (by kernel_rfl) (fun _ _ _ h => h) ?y47 hS ?_
              case y47 => first | (refine Or.inr ⟨by rfl, ?_⟩; with_reducible rfl) | (refine Or.inl ⟨by rfl, ?_⟩; intro wS hSw; have q0 := cell_later hSw x0; have q1 := cell_later hSw x1; have q2 := cell_later hSw y0; have q3 := cell_later hSw y1; have q4 := cell_later hSw j0; have q5 := cell_later hSw j1; have q6 := cell_later hSw m0; have q7 := cell_later hSw m1; go_simp; try with_reducible rfl)
              simp only [Act.put, List.setIfInBounds_toArray, List.set_cons_zero, List.set_cons_succ]
              refine wpAnyH_take (i := 54) (oi := ⟨_, _, _, _, _, _⟩) (v := ?v48) rfl (by kernel_rfl) (by kernel_rfl) (by kernel_rfl) (fun _ _ _ h => h) ?y48 hS ?_
              case y48 => first | (refine Or.inr ⟨by rfl, ?_⟩; with_reducible rfl) | (refine Or.inl ⟨by rfl, ?_⟩; intro wS hSw; have q0 := cell_later hSw x0; have q1 := cell_later hSw x1; have q2 := cell_later hSw y0; have q3 := cell_later hSw y1; have q4 := cell_later hSw j0; have q5 := cell_later hSw j1; have q6 := cell_later hSw m0; have q7 := cell_later hSw m1; go_simp; try with_reducible rfl)
              simp only [Act.put, List.setIfInBounds_toArray, List.set_cons_zero, List.set_cons_succ]
              refine wpAnyH_take (i := 55) (oi := ⟨_, _, _, _, _, _⟩) (v := ?v49) rfl (by kernel_rfl) (by kernel_rfl) (by kernel_rfl) (fun _ _ _ h => h) ?y49 hS ?_
              case y49 => first | (refine Or.inr ⟨by rfl, ?_⟩; with_reducible rfl) | (refine Or.inl ⟨by rfl, ?_⟩; intro wS hSw; have q0 := cell_later hSw x0; have q1 := cell_later hSw x1; have q2 := cell_later hSw y0; have q3 := cell_later hSw y1; have q4 := cell_later hSw j0; have q5 := cell_later hSw j1; have q6 := cell_later hSw m0; have q7 := cell_later hSw m1; go_simp; try with_reducible rfl)
              simp only [Act.put, List.setIfInBounds_toArray, List.set_cons_zero, List.set_cons_succ]
              refine wpAnyH_take (i := 56) (oi := ⟨_, _, _, _, _, _⟩) (v := ?v50) rfl (by kernel_rfl) (by kernel_rfl) (by kernel_rfl) (fun _ _ _ h => h) ?y50 hS ?_
              case y50 => first | (refine Or.inr ⟨by rfl, ?_⟩; with_reducible rfl) | (refine Or.inl ⟨by rfl, ?_⟩; intro wS hSw; have q0 := cell_later hSw x0; have q1 := cell_later hSw x1; have q2 := cell_later hSw y0; have q3 := cell_later hSw y1; have q4 := cell_later hSw j0; have q5 := cell_later hSw j1; have q6 := cell_later hSw m0; have q7 := cell_later hSw m1; go_simp; try with_reducible rfl)
              simp only [Act.put, List.setIfInBounds_toArray, List.set_cons_zero, List.set_cons_succ]
              refine wpAnyH_take (i := 57) (oi := ⟨_, _, _, _, _, _⟩) (v := ?v51) rfl (by kernel_rfl) (by kernel_rfl) (by kernel_rfl) (fun _ _ _ h => h) ?y51 hS ?_
              case y51 => first | (refine Or.inr ⟨by rfl, ?_⟩; with_reducible rfl) | (refine Or.inl ⟨by rfl, ?_⟩; intro wS hSw; have q0 := cell_later hSw x0; have q1 := cell_later hSw x1; have q2 := cell_later hSw y0; have q3 := cell_later hSw y1; have q4 := cell_later hSw j0; have q5 := cell_later hSw j1; have q6 := cell_later hSw m0; have q7 := cell_later hSw m1; go_simp; try with_reducible rfl)
              simp only [Act.put, List.setIfInBounds_toArray, List.set_cons_zero, List.set_cons_succ]
              refine wpAnyH_done (by kernel_rfl) ?_ _
              have hs := HS.out.step hS
              clear hS j0 j1 m0 m1
              clear x0 x1 y0 y1 z0 z1 HS
              have HS := Lib.hid hs
              obtain ⟨x0, x1, y0, y1, z0, z1⟩ := hs.boxes
              clear hs
              go_wp2
              go_meet
              exact HS.out
          · have hdn := sg_dne hne
            have HJ := Lib.hid (fun (u : World) (v : Value) (h : SgsAt u v [⟨a, b⟩, ⟨c, d⟩]) => sJoin_any v [⟨a, b⟩, ⟨c, d⟩] u h (by simp))
            have HM := Lib.hid (fun (u : World) (_ : Sb w X a b c d e f u) => sMeet_any a b c d u)
            rw [h4] at HJ
            rw [h3, h2] at HM
            simp only [sgv] at HJ HM
            have E1 := Lib.hid (fun u => sIn_any a b c d u)
            rw [siB_eq] at E1
            rw [h1] at E1
            have E2 := Lib.hid (fun u => sIn_any c d c d u)
            rw [siB_eq] at E2
            rw [h5] at E2
            have E3 := Lib.hid (fun u => sIn_any a b a b u)
            rw [siB_eq] at E3
            rw [h6] at E3
            have E4 := Lib.hid (fun u => sIn_any a b c d u)
            rw [siB_eq] at E4
            rw [h1] at E4
            have E5 := Lib.hid (fun u => sLess_any a b c d u)
            rw [h7] at E5
            have E6 := Lib.hid (fun u => sLess_any c d a b u)
            rw [h8] at E6
            have E7 := Lib.hid (fun u => sIn_any a b c d u)
            rw [siB_eq] at E7
            rw [h1] at E7
            clear hne h1 h2 h3 h4 h5 h6 h7 h8 H10
            as_aux_lemma =>
              go_wp2_with fail
              obtain ⟨hb1, hg1⟩ := one_new wc (.cells #[.int .i64 a, .int .i64 b, .int .i64 c, .int .i64 d] 23 (0, 0))
              refine (HJ.out _ _ (new_row (l := [(⟨a, b⟩ : Sg), ⟨c, d⟩]) sgc_len hg1 (by simp) rfl)).mono ?_
              rintro e1 uu ⟨rfl, hb⟩
              have hs := HS.out.step (hb1.trans (hb.mono hb1.size))
              clear hb1 hg1 hb
              clear x0 x1 y0 y1 z0 z1 HS
              have HS := Lib.hid hs
              obtain ⟨x0, x1, y0, y1, z0, z1⟩ := hs.boxes
              clear hs
              go_upto_region 9 with (fail)
              obtain ⟨hb1, hg1⟩ := one_new uu (.cells #[.int .i64 c, .int .i64 d] 23 (0, 0))
              refine gen_world (S := fun v => Sb w X a b c d e f v ∧ v.heap[uu.heap.size]? = some (.cells #[.int .i64 c, .int .i64 d] 23 (0, 0))) ⟨HS.out.step hb1, hg1⟩ (fun u2 hv => ?_)
              obtain ⟨hs, hj⟩ := hv
              generalize uu.heap.size = J at hj ⊢
              have HJb := Lib.hid hj
              clear hj hb1 hg1
              clear x0 x1 y0 y1 z0 z1 HS
              have HS := Lib.hid hs
              obtain ⟨x0, x1, y0, y1, z0, z1⟩ := hs.boxes
              clear hs
              go_wp2_with fail
              refine (HM.out _ HS.out).mono ?_
              rintro e1 u3 ⟨rfl, hb⟩
              have hj := (hb.block _ (lt_of_block HJb.out)).trans HJb.out
              have hs := HS.out.step hb
              clear hb HJb
              have HJb := Lib.hid hj
              clear hj
              clear x0 x1 y0 y1 z0 z1 HS
              have HS := Lib.hid hs
              obtain ⟨x0, x1, y0, y1, z0, z1⟩ := hs.boxes
              clear hs
              go_upto_region 10 with (fail)
              obtain ⟨hb1, hg1⟩ := one_new u3 (.cells #[.int .i64 a, .int .i64 b] 23 (0, 0))
              refine gen_world (S := fun v => Sb w X a b c d e f v ∧ v.heap[J]? = some (.cells #[.int .i64 c, .int .i64 d] 23 (0, 0)) ∧ v.heap[u3.heap.size]? = some (.cells #[.int .i64 a, .int .i64 b] 23 (0, 0))) ⟨HS.out.step hb1, (hb1.block _ (lt_of_block HJb.out)).trans HJb.out, hg1⟩ (fun wr hv => ?_)
              obtain ⟨hs, hj, hm⟩ := hv
              generalize u3.heap.size = M at hm ⊢
              obtain ⟨j0, j1⟩ := two_box hj
              obtain ⟨m0, m1⟩ := two_box hm
              clear hj hm hb1 hg1 HJb HJ HM
              clear x0 x1 y0 y1 z0 z1 HS
              have HS := Lib.hid hs
              obtain ⟨x0, x1, y0, y1, z0, z1⟩ := hs.boxes
              clear hs
              have L1 := Lib.hid (lift_below (w := wr) E1.out)
              have L2 := Lib.hid (lift_below (w := wr) E2.out)
              have L3 := Lib.hid (lift_below (w := wr) E3.out)
              have L4 := Lib.hid (lift_below (w := wr) E4.out)
              have L5 := Lib.hid (lift_below (w := wr) E5.out)
              have L6 := Lib.hid (lift_below (w := wr) E6.out)
              have L7 := Lib.hid (lift_below (w := wr) E7.out)
              refine wp_region_held_drew (S := fun u => Below wr.heap.size wr u) (by kernel_rfl) ((Below.refl wr.heap.size wr).drew) (fun hS => ?_)
              refine wpAnyH_take (i := 0) (oi := ⟨_, _, _, _, _, _⟩) (v := ?v52) rfl (by kernel_rfl) (by kernel_rfl) (by kernel_rfl) (fun _ _ _ h => h) ?y52 hS ?_
              case y52 => first | (refine Or.inr ⟨by rfl, ?_⟩; with_reducible rfl) | (refine Or.inl ⟨by rfl, ?_⟩; intro wS hSw; have q0 := cell_later hSw x0; have q1 := cell_later hSw x1; have q2 := cell_later hSw y0; have q3 := cell_later hSw y1; have q4 := cell_later hSw j0; have q5 := cell_later hSw j1; have q6 := cell_later hSw m0; have q7 := cell_later hSw m1; go_simp; try with_reducible rfl)
              simp only [Act.put, List.setIfInBounds_toArray, List.set_cons_zero, List.set_cons_succ]
              refine wpAnyH_take (i := 1) (oi := ⟨_, _, _, _, _, _⟩) (v := ?v53) rfl (by kernel_rfl) (by kernel_rfl) (by kernel_rfl) (fun _ _ _ h => h) ?y53 hS ?_
              case y53 => first | (refine Or.inr ⟨by rfl, ?_⟩; with_reducible rfl) | (refine Or.inl ⟨by rfl, ?_⟩; intro wS hSw; have q0 := cell_later hSw x0; have q1 := cell_later hSw x1; have q2 := cell_later hSw y0; have q3 := cell_later hSw y1; have q4 := cell_later hSw j0; have q5 := cell_later hSw j1; have q6 := cell_later hSw m0; have q7 := cell_later hSw m1; go_simp; try with_reducible rfl)
              simp only [Act.put, List.setIfInBounds_toArray, List.set_cons_zero, List.set_cons_succ]
              refine wpAnyH_ready (rs := [2]) (by kernel_rfl) (by simp) ?_
              refine AllReadyH.cons (o := ⟨_, _, _, _, _, _⟩) rfl (fun K hK => ?_) AllReadyH.nil
              go_simp
              refine (L1.out _ hS).mono ?_
              rintro e wx ⟨rfl, hS⟩
              go_wp2_with fail
              refine hK.out _ _ hS (fun _ => ?_)
              clear hK K
              try simp only [Act.put, List.setIfInBounds_toArray, List.set_cons_zero, List.set_cons_succ]
              refine wpAnyH_take (i := 3) (oi := ⟨_, _, _, _, _, _⟩) (v := ?v54) rfl (by kernel_rfl) (by kernel_rfl) (by kernel_rfl) (fun _ _ _ h => h) ?y54 hS ?_
              case y54 => first | (refine Or.inr ⟨by rfl, ?_⟩; with_reducible rfl) | (refine Or.inl ⟨by rfl, ?_⟩; intro wS hSw; have q0 := cell_later hSw x0; have q1 := cell_later hSw x1; have q2 := cell_later hSw y0; have q3 := cell_later hSw y1; have q4 := cell_later hSw j0; have q5 := cell_later hSw j1; have q6 := cell_later hSw m0; have q7 := cell_later hSw m1; go_simp; try with_reducible rfl)
              simp only [Act.put, List.setIfInBounds_toArray, List.set_cons_zero, List.set_cons_succ]
              refine wpAnyH_take (i := 4) (oi := ⟨_, _, _, _, _, _⟩) (v := ?v55) rfl (by kernel_rfl) (by kernel_rfl) (by kernel_rfl) (fun _ _ _ h => h) ?y55 hS ?_
              case y55 => first | (refine Or.inr ⟨by rfl, ?_⟩; with_reducible rfl) | (refine Or.inl ⟨by rfl, ?_⟩; intro wS hSw; have q0 := cell_later hSw x0; have q1 := cell_later hSw x1; have q2 := cell_later hSw y0; have q3 := cell_later hSw y1; have q4 := cell_later hSw j0; have q5 := cell_later hSw j1; have q6 := cell_later hSw m0; have q7 := cell_later hSw m1; go_simp; try with_reducible rfl)
              simp only [Act.put, List.setIfInBounds_toArray, List.set_cons_zero, List.set_cons_succ]
              refine wpAnyH_take (i := 5) (oi := ⟨_, _, _, _, _, _⟩) (v := ?v56) rfl (by kernel_rfl) (by kernel_rfl) (by kernel_rfl) (fun _ _ _ h => h) ?y56 hS ?_
              case y56 => first | (refine Or.inr ⟨by rfl, ?_⟩; with_reducible rfl) | (refine Or.inl ⟨by rfl, ?_⟩; intro wS hSw; have q0 := cell_later hSw x0; have q1 := cell_later hSw x1; have q2 := cell_later hSw y0; have q3 := cell_later hSw y1; have q4 := cell_later hSw j0; have q5 := cell_later hSw j1; have q6 := cell_later hSw m0; have q7 := cell_later hSw m1; go_simp; try with_reducible rfl)
              simp only [Act.put, List.setIfInBounds_toArray, List.set_cons_zero, List.set_cons_succ]
              refine wpAnyH_take (i := 6) (oi := ⟨_, _, _, _, _, _⟩) (v := ?v57) rfl (by kernel_rfl) (by kernel_rfl) (by kernel_rfl) (fun _ _ _ h => h) ?y57 hS ?_
              case y57 => first | (refine Or.inr ⟨by rfl, ?_⟩; with_reducible rfl) | (refine Or.inl ⟨by rfl, ?_⟩; intro wS hSw; have q0 := cell_later hSw x0; have q1 := cell_later hSw x1; have q2 := cell_later hSw y0; have q3 := cell_later hSw y1; have q4 := cell_later hSw j0; have q5 := cell_later hSw j1; have q6 := cell_later hSw m0; have q7 := cell_later hSw m1; go_simp; try with_reducible rfl)
              simp only [Act.put, List.setIfInBounds_toArray, List.set_cons_zero, List.set_cons_succ]
              refine wpAnyH_ready (rs := [7]) (by kernel_rfl) (by simp) ?_
              refine AllReadyH.cons (o := ⟨_, _, _, _, _, _⟩) rfl (fun K hK => ?_) AllReadyH.nil
              go_simp
              refine (L2.out _ hS).mono ?_
              rintro e wx ⟨rfl, hS⟩
              go_wp2_with fail
              refine hK.out _ _ hS (fun _ => ?_)
              clear hK K
              try simp only [Act.put, List.setIfInBounds_toArray, List.set_cons_zero, List.set_cons_succ]
              refine wpAnyH_take (i := 8) (oi := ⟨_, _, _, _, _, _⟩) (v := ?v58) rfl (by kernel_rfl) (by kernel_rfl) (by kernel_rfl) (fun _ _ _ h => h) ?y58 hS ?_
              case y58 => first | (refine Or.inr ⟨by rfl, ?_⟩; with_reducible rfl) | (refine Or.inl ⟨by rfl, ?_⟩; intro wS hSw; have q0 := cell_later hSw x0; have q1 := cell_later hSw x1; have q2 := cell_later hSw y0; have q3 := cell_later hSw y1; have q4 := cell_later hSw j0; have q5 := cell_later hSw j1; have q6 := cell_later hSw m0; have q7 := cell_later hSw m1; go_simp; try with_reducible rfl)
              simp only [Act.put, List.setIfInBounds_toArray, List.set_cons_zero, List.set_cons_succ]
              refine wpAnyH_take (i := 9) (oi := ⟨_, _, _, _, _, _⟩) (v := ?v59) rfl (by kernel_rfl) (by kernel_rfl) (by kernel_rfl) (fun _ _ _ h => h) ?y59 hS ?_
              case y59 => first | (refine Or.inr ⟨by rfl, ?_⟩; with_reducible rfl) | (refine Or.inl ⟨by rfl, ?_⟩; intro wS hSw; have q0 := cell_later hSw x0; have q1 := cell_later hSw x1; have q2 := cell_later hSw y0; have q3 := cell_later hSw y1; have q4 := cell_later hSw j0; have q5 := cell_later hSw j1; have q6 := cell_later hSw m0; have q7 := cell_later hSw m1; go_simp; try with_reducible rfl)
              simp only [Act.put, List.setIfInBounds_toArray, List.set_cons_zero, List.set_cons_succ]
              refine wpAnyH_take (i := 10) (oi := ⟨_, _, _, _, _, _⟩) (v := ?v60) rfl (by kernel_rfl) (by kernel_rfl) (by kernel_rfl) (fun _ _ _ h => h) ?y60 hS ?_
              case y60 => first | (refine Or.inr ⟨by rfl, ?_⟩; with_reducible rfl) | (refine Or.inl ⟨by rfl, ?_⟩; intro wS hSw; have q0 := cell_later hSw x0; have q1 := cell_later hSw x1; have q2 := cell_later hSw y0; have q3 := cell_later hSw y1; have q4 := cell_later hSw j0; have q5 := cell_later hSw j1; have q6 := cell_later hSw m0; have q7 := cell_later hSw m1; go_simp; try with_reducible rfl)
              simp only [Act.put, List.setIfInBounds_toArray, List.set_cons_zero, List.set_cons_succ]
              refine wpAnyH_take (i := 11) (oi := ⟨_, _, _, _, _, _⟩) (v := ?v61) rfl (by kernel_rfl) (by kernel_rfl) (by kernel_rfl) (fun _ _ _ h => h) ?y61 hS ?_
              case y61 => first | (refine Or.inr ⟨by rfl, ?_⟩; with_reducible rfl) | (refine Or.inl ⟨by rfl, ?_⟩; intro wS hSw; have q0 := cell_later hSw x0; have q1 := cell_later hSw x1; have q2 := cell_later hSw y0; have q3 := cell_later hSw y1; have q4 := cell_later hSw j0; have q5 := cell_later hSw j1; have q6 := cell_later hSw m0; have q7 := cell_later hSw m1; go_simp; try with_reducible rfl)
              simp only [Act.put, List.setIfInBounds_toArray, List.set_cons_zero, List.set_cons_succ]
              refine wpAnyH_take (i := 12) (oi := ⟨_, _, _, _, _, _⟩) (v := ?v62) rfl (by kernel_rfl) (by kernel_rfl) (by kernel_rfl) (fun _ _ _ h => h) ?y62 hS ?_
              case y62 => first | (refine Or.inr ⟨by rfl, ?_⟩; with_reducible rfl) | (refine Or.inl ⟨by rfl, ?_⟩; intro wS hSw; have q0 := cell_later hSw x0; have q1 := cell_later hSw x1; have q2 := cell_later hSw y0; have q3 := cell_later hSw y1; have q4 := cell_later hSw j0; have q5 := cell_later hSw j1; have q6 := cell_later hSw m0; have q7 := cell_later hSw m1; go_simp; try with_reducible rfl)
              simp only [Act.put, List.setIfInBounds_toArray, List.set_cons_zero, List.set_cons_succ]
              refine wpAnyH_take (i := 13) (oi := ⟨_, _, _, _, _, _⟩) (v := ?v63) rfl (by kernel_rfl) (by kernel_rfl) (by kernel_rfl) (fun _ _ _ h => h) ?y63 hS ?_
              case y63 => first | (refine Or.inr ⟨by rfl, ?_⟩; with_reducible rfl) | (refine Or.inl ⟨by rfl, ?_⟩; intro wS hSw; have q0 := cell_later hSw x0; have q1 := cell_later hSw x1; have q2 := cell_later hSw y0; have q3 := cell_later hSw y1; have q4 := cell_later hSw j0; have q5 := cell_later hSw j1; have q6 := cell_later hSw m0; have q7 := cell_later hSw m1; go_simp; try with_reducible rfl)
              simp only [Act.put, List.setIfInBounds_toArray, List.set_cons_zero, List.set_cons_succ]
              refine wpAnyH_take (i := 14) (oi := ⟨_, _, _, _, _, _⟩) (v := ?v64) rfl (by kernel_rfl) (by kernel_rfl) (by kernel_rfl) (fun _ _ _ h => h) ?y64 hS ?_
              case y64 => first | (refine Or.inr ⟨by rfl, ?_⟩; with_reducible rfl) | (refine Or.inl ⟨by rfl, ?_⟩; intro wS hSw; have q0 := cell_later hSw x0; have q1 := cell_later hSw x1; have q2 := cell_later hSw y0; have q3 := cell_later hSw y1; have q4 := cell_later hSw j0; have q5 := cell_later hSw j1; have q6 := cell_later hSw m0; have q7 := cell_later hSw m1; go_simp; try with_reducible rfl)
              simp only [Act.put, List.setIfInBounds_toArray, List.set_cons_zero, List.set_cons_succ]
              refine wpAnyH_ready (rs := [15]) (by kernel_rfl) (by simp) ?_
              refine AllReadyH.cons (o := ⟨_, _, _, _, _, _⟩) rfl (fun K hK => ?_) AllReadyH.nil
              go_simp
              refine (L3.out _ hS).mono ?_
              rintro e wx ⟨rfl, hS⟩
              go_wp2_with fail
              refine hK.out _ _ hS (fun _ => ?_)
              clear hK K
              try simp only [Act.put, List.setIfInBounds_toArray, List.set_cons_zero, List.set_cons_succ]
              refine wpAnyH_take (i := 16) (oi := ⟨_, _, _, _, _, _⟩) (v := ?v65) rfl (by kernel_rfl) (by kernel_rfl) (by kernel_rfl) (fun _ _ _ h => h) ?y65 hS ?_
              case y65 => first | (refine Or.inr ⟨by rfl, ?_⟩; with_reducible rfl) | (refine Or.inl ⟨by rfl, ?_⟩; intro wS hSw; have q0 := cell_later hSw x0; have q1 := cell_later hSw x1; have q2 := cell_later hSw y0; have q3 := cell_later hSw y1; have q4 := cell_later hSw j0; have q5 := cell_later hSw j1; have q6 := cell_later hSw m0; have q7 := cell_later hSw m1; go_simp; try with_reducible rfl)
              simp only [Act.put, List.setIfInBounds_toArray, List.set_cons_zero, List.set_cons_succ]
              refine wpAnyH_take (i := 17) (oi := ⟨_, _, _, _, _, _⟩) (v := ?v66) rfl (by kernel_rfl) (by kernel_rfl) (by kernel_rfl) (fun _ _ _ h => h) ?y66 hS ?_
              case y66 => first | (refine Or.inr ⟨by rfl, ?_⟩; with_reducible rfl) | (refine Or.inl ⟨by rfl, ?_⟩; intro wS hSw; have q0 := cell_later hSw x0; have q1 := cell_later hSw x1; have q2 := cell_later hSw y0; have q3 := cell_later hSw y1; have q4 := cell_later hSw j0; have q5 := cell_later hSw j1; have q6 := cell_later hSw m0; have q7 := cell_later hSw m1; go_simp; try with_reducible rfl)
              simp only [Act.put, List.setIfInBounds_toArray, List.set_cons_zero, List.set_cons_succ]
              refine wpAnyH_take (i := 18) (oi := ⟨_, _, _, _, _, _⟩) (v := ?v67) rfl (by kernel_rfl) (by kernel_rfl) (by kernel_rfl) (fun _ _ _ h => h) ?y67 hS ?_
              case y67 => first | (refine Or.inr ⟨by rfl, ?_⟩; with_reducible rfl) | (refine Or.inl ⟨by rfl, ?_⟩; intro wS hSw; have q0 := cell_later hSw x0; have q1 := cell_later hSw x1; have q2 := cell_later hSw y0; have q3 := cell_later hSw y1; have q4 := cell_later hSw j0; have q5 := cell_later hSw j1; have q6 := cell_later hSw m0; have q7 := cell_later hSw m1; go_simp; try with_reducible rfl)
              simp only [Act.put, List.setIfInBounds_toArray, List.set_cons_zero, List.set_cons_succ]
              refine wpAnyH_take (i := 19) (oi := ⟨_, _, _, _, _, _⟩) (v := ?v68) rfl (by kernel_rfl) (by kernel_rfl) (by kernel_rfl) (fun _ _ _ h => h) ?y68 hS ?_
              case y68 => first | (refine Or.inr ⟨by rfl, ?_⟩; with_reducible rfl) | (refine Or.inl ⟨by rfl, ?_⟩; intro wS hSw; have q0 := cell_later hSw x0; have q1 := cell_later hSw x1; have q2 := cell_later hSw y0; have q3 := cell_later hSw y1; have q4 := cell_later hSw j0; have q5 := cell_later hSw j1; have q6 := cell_later hSw m0; have q7 := cell_later hSw m1; go_simp; try with_reducible rfl)
              simp only [Act.put, List.setIfInBounds_toArray, List.set_cons_zero, List.set_cons_succ]
              refine wpAnyH_ready (rs := [20]) (by kernel_rfl) (by simp) ?_
              refine AllReadyH.cons (o := ⟨_, _, _, _, _, _⟩) rfl (fun K hK => ?_) AllReadyH.nil
              go_simp
              refine (L4.out _ hS).mono ?_
              rintro e wx ⟨rfl, hS⟩
              go_wp2_with fail
              refine hK.out _ _ hS (fun _ => ?_)
              clear hK K
              try simp only [Act.put, List.setIfInBounds_toArray, List.set_cons_zero, List.set_cons_succ]
              refine wpAnyH_take (i := 21) (oi := ⟨_, _, _, _, _, _⟩) (v := ?v69) rfl (by kernel_rfl) (by kernel_rfl) (by kernel_rfl) (fun _ _ _ h => h) ?y69 hS ?_
              case y69 => first | (refine Or.inr ⟨by rfl, ?_⟩; with_reducible rfl) | (refine Or.inl ⟨by rfl, ?_⟩; intro wS hSw; have q0 := cell_later hSw x0; have q1 := cell_later hSw x1; have q2 := cell_later hSw y0; have q3 := cell_later hSw y1; have q4 := cell_later hSw j0; have q5 := cell_later hSw j1; have q6 := cell_later hSw m0; have q7 := cell_later hSw m1; go_simp; try with_reducible rfl)
              simp only [Act.put, List.setIfInBounds_toArray, List.set_cons_zero, List.set_cons_succ]
              refine wpAnyH_take (i := 22) (oi := ⟨_, _, _, _, _, _⟩) (v := ?v70) rfl (by kernel_rfl) (by kernel_rfl) (by kernel_rfl) (fun _ _ _ h => h) ?y70 hS ?_
              case y70 => first | (refine Or.inr ⟨by rfl, ?_⟩; with_reducible rfl) | (refine Or.inl ⟨by rfl, ?_⟩; intro wS hSw; have q0 := cell_later hSw x0; have q1 := cell_later hSw x1; have q2 := cell_later hSw y0; have q3 := cell_later hSw y1; have q4 := cell_later hSw j0; have q5 := cell_later hSw j1; have q6 := cell_later hSw m0; have q7 := cell_later hSw m1; go_simp; try with_reducible rfl)
              simp only [Act.put, List.setIfInBounds_toArray, List.set_cons_zero, List.set_cons_succ]
              refine wpAnyH_take (i := 23) (oi := ⟨_, _, _, _, _, _⟩) (v := ?v71) rfl (by kernel_rfl) (by kernel_rfl) (by kernel_rfl) (fun _ _ _ h => h) ?y71 hS ?_
              case y71 => first | (refine Or.inr ⟨by rfl, ?_⟩; with_reducible rfl) | (refine Or.inl ⟨by rfl, ?_⟩; intro wS hSw; have q0 := cell_later hSw x0; have q1 := cell_later hSw x1; have q2 := cell_later hSw y0; have q3 := cell_later hSw y1; have q4 := cell_later hSw j0; have q5 := cell_later hSw j1; have q6 := cell_later hSw m0; have q7 := cell_later hSw m1; go_simp; try with_reducible rfl)
              simp only [Act.put, List.setIfInBounds_toArray, List.set_cons_zero, List.set_cons_succ]
              refine wpAnyH_take (i := 24) (oi := ⟨_, _, _, _, _, _⟩) (v := ?v72) rfl (by kernel_rfl) (by kernel_rfl) (by kernel_rfl) (fun _ _ _ h => h) ?y72 hS ?_
              case y72 => first | (refine Or.inr ⟨by rfl, ?_⟩; with_reducible rfl) | (refine Or.inl ⟨by rfl, ?_⟩; intro wS hSw; have q0 := cell_later hSw x0; have q1 := cell_later hSw x1; have q2 := cell_later hSw y0; have q3 := cell_later hSw y1; have q4 := cell_later hSw j0; have q5 := cell_later hSw j1; have q6 := cell_later hSw m0; have q7 := cell_later hSw m1; go_simp; try with_reducible rfl)
              simp only [Act.put, List.setIfInBounds_toArray, List.set_cons_zero, List.set_cons_succ]
              refine wpAnyH_take (i := 25) (oi := ⟨_, _, _, _, _, _⟩) (v := ?v73) rfl (by kernel_rfl) (by kernel_rfl) (by kernel_rfl) (fun _ _ _ h => h) ?y73 hS ?_
              case y73 => first | (refine Or.inr ⟨by rfl, ?_⟩; with_reducible rfl) | (refine Or.inl ⟨by rfl, ?_⟩; intro wS hSw; have q0 := cell_later hSw x0; have q1 := cell_later hSw x1; have q2 := cell_later hSw y0; have q3 := cell_later hSw y1; have q4 := cell_later hSw j0; have q5 := cell_later hSw j1; have q6 := cell_later hSw m0; have q7 := cell_later hSw m1; go_simp; try with_reducible rfl)
              simp only [Act.put, List.setIfInBounds_toArray, List.set_cons_zero, List.set_cons_succ]
              refine wpAnyH_take (i := 26) (oi := ⟨_, _, _, _, _, _⟩) (v := ?v74) rfl (by kernel_rfl) (by kernel_rfl) (by kernel_rfl) (fun _ _ _ h => h) ?y74 hS ?_
              case y74 => first | (refine Or.inr ⟨by rfl, ?_⟩; with_reducible rfl) | (refine Or.inl ⟨by rfl, ?_⟩; intro wS hSw; have q0 := cell_later hSw x0; have q1 := cell_later hSw x1; have q2 := cell_later hSw y0; have q3 := cell_later hSw y1; have q4 := cell_later hSw j0; have q5 := cell_later hSw j1; have q6 := cell_later hSw m0; have q7 := cell_later hSw m1; go_simp; try with_reducible rfl)
              simp only [Act.put, List.setIfInBounds_toArray, List.set_cons_zero, List.set_cons_succ]
              refine wpAnyH_take (i := 27) (oi := ⟨_, _, _, _, _, _⟩) (v := ?v75) rfl (by kernel_rfl) (by kernel_rfl) (by kernel_rfl) (fun _ _ _ h => h) ?y75 hS ?_
              case y75 => first | (refine Or.inr ⟨by rfl, ?_⟩; with_reducible rfl) | (refine Or.inl ⟨by rfl, ?_⟩; intro wS hSw; have q0 := cell_later hSw x0; have q1 := cell_later hSw x1; have q2 := cell_later hSw y0; have q3 := cell_later hSw y1; have q4 := cell_later hSw j0; have q5 := cell_later hSw j1; have q6 := cell_later hSw m0; have q7 := cell_later hSw m1; go_simp; try with_reducible rfl)
              simp only [Act.put, List.setIfInBounds_toArray, List.set_cons_zero, List.set_cons_succ]
              refine wpAnyH_take (i := 28) (oi := ⟨_, _, _, _, _, _⟩) (v := ?v76) rfl (by kernel_rfl) (by kernel_rfl) (by kernel_rfl) (fun _ _ _ h => h) ?y76 hS ?_
              case y76 => first | (refine Or.inr ⟨by rfl, ?_⟩; with_reducible rfl) | (refine Or.inl ⟨by rfl, ?_⟩; intro wS hSw; have q0 := cell_later hSw x0; have q1 := cell_later hSw x1; have q2 := cell_later hSw y0; have q3 := cell_later hSw y1; have q4 := cell_later hSw j0; have q5 := cell_later hSw j1; have q6 := cell_later hSw m0; have q7 := cell_later hSw m1; go_simp; try with_reducible rfl)
              simp only [Act.put, List.setIfInBounds_toArray, List.set_cons_zero, List.set_cons_succ]
              refine wpAnyH_take (i := 29) (oi := ⟨_, _, _, _, _, _⟩) (v := ?v77) rfl (by kernel_rfl) (by kernel_rfl) (by kernel_rfl) (fun _ _ _ h => h) ?y77 hS ?_
              case y77 => first | (refine Or.inr ⟨by rfl, ?_⟩; with_reducible rfl) | (refine Or.inl ⟨by rfl, ?_⟩; intro wS hSw; have q0 := cell_later hSw x0; have q1 := cell_later hSw x1; have q2 := cell_later hSw y0; have q3 := cell_later hSw y1; have q4 := cell_later hSw j0; have q5 := cell_later hSw j1; have q6 := cell_later hSw m0; have q7 := cell_later hSw m1; go_simp; try with_reducible rfl)
              simp only [Act.put, List.setIfInBounds_toArray, List.set_cons_zero, List.set_cons_succ]
              refine wpAnyH_take (i := 30) (oi := ⟨_, _, _, _, _, _⟩) (v := ?v78) rfl (by kernel_rfl) (by kernel_rfl) (by kernel_rfl) (fun _ _ _ h => h) ?y78 hS ?_
              case y78 => first | (refine Or.inr ⟨by rfl, ?_⟩; with_reducible rfl) | (refine Or.inl ⟨by rfl, ?_⟩; intro wS hSw; have q0 := cell_later hSw x0; have q1 := cell_later hSw x1; have q2 := cell_later hSw y0; have q3 := cell_later hSw y1; have q4 := cell_later hSw j0; have q5 := cell_later hSw j1; have q6 := cell_later hSw m0; have q7 := cell_later hSw m1; go_simp; try with_reducible rfl)
              simp only [Act.put, List.setIfInBounds_toArray, List.set_cons_zero, List.set_cons_succ]
              refine wpAnyH_take (i := 31) (oi := ⟨_, _, _, _, _, _⟩) (v := ?v79) rfl (by kernel_rfl) (by kernel_rfl) (by kernel_rfl) (fun _ _ _ h => h) ?y79 hS ?_
              case y79 => first | (refine Or.inr ⟨by rfl, ?_⟩; with_reducible rfl) | (refine Or.inl ⟨by rfl, ?_⟩; intro wS hSw; have q0 := cell_later hSw x0; have q1 := cell_later hSw x1; have q2 := cell_later hSw y0; have q3 := cell_later hSw y1; have q4 := cell_later hSw j0; have q5 := cell_later hSw j1; have q6 := cell_later hSw m0; have q7 := cell_later hSw m1; go_simp; try with_reducible rfl)
              simp only [Act.put, List.setIfInBounds_toArray, List.set_cons_zero, List.set_cons_succ]
              refine wpAnyH_take (i := 33) (oi := ⟨_, _, _, _, _, _⟩) (v := ?v80) rfl (by kernel_rfl) (by kernel_rfl) (by kernel_rfl) (fun _ _ _ h => h) ?y80 hS ?_
              case y80 => first | (refine Or.inr ⟨by rfl, ?_⟩; with_reducible rfl) | (refine Or.inl ⟨by rfl, ?_⟩; intro wS hSw; have q0 := cell_later hSw x0; have q1 := cell_later hSw x1; have q2 := cell_later hSw y0; have q3 := cell_later hSw y1; have q4 := cell_later hSw j0; have q5 := cell_later hSw j1; have q6 := cell_later hSw m0; have q7 := cell_later hSw m1; go_simp; try with_reducible rfl)
              simp only [Act.put, List.setIfInBounds_toArray, List.set_cons_zero, List.set_cons_succ]
              refine wpAnyH_take (i := 34) (oi := ⟨_, _, _, _, _, _⟩) (v := ?v81) rfl (by kernel_rfl) (by kernel_rfl) (by kernel_rfl) (fun _ _ _ h => h) ?y81 hS ?_
              case y81 => first | (refine Or.inr ⟨by rfl, ?_⟩; with_reducible rfl) | (refine Or.inl ⟨by rfl, ?_⟩; intro wS hSw; have q0 := cell_later hSw x0; have q1 := cell_later hSw x1; have q2 := cell_later hSw y0; have q3 := cell_later hSw y1; have q4 := cell_later hSw j0; have q5 := cell_later hSw j1; have q6 := cell_later hSw m0; have q7 := cell_later hSw m1; go_simp; try with_reducible rfl)
              simp only [Act.put, List.setIfInBounds_toArray, List.set_cons_zero, List.set_cons_succ]
              refine wpAnyH_ready (rs := [32]) (by kernel_rfl) (by simp) ?_
              refine AllReadyH.cons (o := ⟨_, _, _, _, _, _⟩) rfl (fun K hK => ?_) AllReadyH.nil
              go_simp
              refine (L5.out _ hS).mono ?_
              rintro e wx ⟨rfl, hS⟩
              go_wp2_with fail
              refine hK.out _ _ hS (fun _ => ?_)
              clear hK K
              try simp only [Act.put, List.setIfInBounds_toArray, List.set_cons_zero, List.set_cons_succ]
              refine wpAnyH_ready (rs := [35]) (by kernel_rfl) (by simp) ?_
              refine AllReadyH.cons (o := ⟨_, _, _, _, _, _⟩) rfl (fun K hK => ?_) AllReadyH.nil
              go_simp
              refine (L6.out _ hS).mono ?_
              rintro e wx ⟨rfl, hS⟩
              go_wp2_with fail
              refine hK.out _ _ hS (fun _ => ?_)
              clear hK K
              try simp only [Act.put, List.setIfInBounds_toArray, List.set_cons_zero, List.set_cons_succ]
              refine wpAnyH_take (i := 36) (oi := ⟨_, _, _, _, _, _⟩) (v := ?v82) rfl (by kernel_rfl) (by kernel_rfl) (by kernel_rfl) (fun _ _ _ h => h) ?y82 hS ?_
              case y82 => first | (refine Or.inr ⟨by rfl, ?_⟩; with_reducible rfl) | (refine Or.inl ⟨by rfl, ?_⟩; intro wS hSw; have q0 := cell_later hSw x0; have q1 := cell_later hSw x1; have q2 := cell_later hSw y0; have q3 := cell_later hSw y1; have q4 := cell_later hSw j0; have q5 := cell_later hSw j1; have q6 := cell_later hSw m0; have q7 := cell_later hSw m1; go_simp; try with_reducible rfl)
              simp only [Act.put, List.setIfInBounds_toArray, List.set_cons_zero, List.set_cons_succ]
              refine wpAnyH_take (i := 37) (oi := ⟨_, _, _, _, _, _⟩) (v := ?v83) rfl (by kernel_rfl) (by kernel_rfl) (by kernel_rfl) (fun _ _ _ h => h) ?y83 hS ?_
              case y83 => first | (refine Or.inr ⟨by rfl, ?_⟩; with_reducible rfl) | (refine Or.inl ⟨by rfl, ?_⟩; intro wS hSw; have q0 := cell_later hSw x0; have q1 := cell_later hSw x1; have q2 := cell_later hSw y0; have q3 := cell_later hSw y1; have q4 := cell_later hSw j0; have q5 := cell_later hSw j1; have q6 := cell_later hSw m0; have q7 := cell_later hSw m1; go_simp; try with_reducible rfl)
              simp only [Act.put, List.setIfInBounds_toArray, List.set_cons_zero, List.set_cons_succ]
              refine wpAnyH_take (i := 38) (oi := ⟨_, _, _, _, _, _⟩) (v := ?v84) rfl (by kernel_rfl) (by kernel_rfl) (by kernel_rfl) (fun _ _ _ h => h) ?y84 hS ?_
              case y84 => first | (refine Or.inr ⟨by rfl, ?_⟩; with_reducible rfl) | (refine Or.inl ⟨by rfl, ?_⟩; intro wS hSw; have q0 := cell_later hSw x0; have q1 := cell_later hSw x1; have q2 := cell_later hSw y0; have q3 := cell_later hSw y1; have q4 := cell_later hSw j0; have q5 := cell_later hSw j1; have q6 := cell_later hSw m0; have q7 := cell_later hSw m1; go_simp; try with_reducible rfl)
              simp only [Act.put, List.setIfInBounds_toArray, List.set_cons_zero, List.set_cons_succ]
              refine wpAnyH_take (i := 39) (oi := ⟨_, _, _, _, _, _⟩) (v := ?v85) rfl (by kernel_rfl) (by kernel_rfl) (by kernel_rfl) (fun _ _ _ h => h) ?y85 hS ?_
              case y85 => first | (refine Or.inr ⟨by rfl, ?_⟩; with_reducible rfl) | (refine Or.inl ⟨by rfl, ?_⟩; intro wS hSw; have q0 := cell_later hSw x0; have q1 := cell_later hSw x1; have q2 := cell_later hSw y0; have q3 := cell_later hSw y1; have q4 := cell_later hSw j0; have q5 := cell_later hSw j1; have q6 := cell_later hSw m0; have q7 := cell_later hSw m1; go_simp; try with_reducible rfl)
              simp only [Act.put, List.setIfInBounds_toArray, List.set_cons_zero, List.set_cons_succ]
              refine wpAnyH_take (i := 40) (oi := ⟨_, _, _, _, _, _⟩) (v := ?v86) rfl (by kernel_rfl) (by kernel_rfl) (by kernel_rfl) (fun _ _ _ h => h) ?y86 hS ?_
              case y86 => first | (refine Or.inr ⟨by rfl, ?_⟩; with_reducible rfl) | (refine Or.inl ⟨by rfl, ?_⟩; intro wS hSw; have q0 := cell_later hSw x0; have q1 := cell_later hSw x1; have q2 := cell_later hSw y0; have q3 := cell_later hSw y1; have q4 := cell_later hSw j0; have q5 := cell_later hSw j1; have q6 := cell_later hSw m0; have q7 := cell_later hSw m1; go_simp; try with_reducible rfl)
              simp only [Act.put, List.setIfInBounds_toArray, List.set_cons_zero, List.set_cons_succ]
              refine wpAnyH_take (i := 41) (oi := ⟨_, _, _, _, _, _⟩) (v := ?v87) rfl (by kernel_rfl) (by kernel_rfl) (by kernel_rfl) (fun _ _ _ h => h) ?y87 hS ?_
              case y87 => first | (refine Or.inr ⟨by rfl, ?_⟩; with_reducible rfl) | (refine Or.inl ⟨by rfl, ?_⟩; intro wS hSw; have q0 := cell_later hSw x0; have q1 := cell_later hSw x1; have q2 := cell_later hSw y0; have q3 := cell_later hSw y1; have q4 := cell_later hSw j0; have q5 := cell_later hSw j1; have q6 := cell_later hSw m0; have q7 := cell_later hSw m1; go_simp; try with_reducible rfl)
              simp only [Act.put, List.setIfInBounds_toArray, List.set_cons_zero, List.set_cons_succ]
              refine wpAnyH_ready (rs := [42]) (by kernel_rfl) (by simp) ?_
              refine AllReadyH.cons (o := ⟨_, _, _, _, _, _⟩) rfl (fun K hK => ?_) AllReadyH.nil
              go_simp
              refine (L7.out _ hS).mono ?_
              rintro e wx ⟨rfl, hS⟩
              go_wp2_with fail
              refine hK.out _ _ hS (fun _ => ?_)
              clear hK K
              try simp only [Act.put, List.setIfInBounds_toArray, List.set_cons_zero, List.set_cons_succ]
              refine wpAnyH_take (i := 43) (oi := ⟨_, _, _, _, _, _⟩) (v := ?v88) rfl (by kernel_rfl) (by kernel_rfl) (by kernel_rfl) (fun _ _ _ h => h) ?y88 hS ?_
              case y88 => first | (refine Or.inr ⟨by rfl, ?_⟩; with_reducible rfl) | (refine Or.inl ⟨by rfl, ?_⟩; intro wS hSw; have q0 := cell_later hSw x0; have q1 := cell_later hSw x1; have q2 := cell_later hSw y0; have q3 := cell_later hSw y1; have q4 := cell_later hSw j0; have q5 := cell_later hSw j1; have q6 := cell_later hSw m0; have q7 := cell_later hSw m1; go_simp; try with_reducible rfl)
              simp only [Act.put, List.setIfInBounds_toArray, List.set_cons_zero, List.set_cons_succ]
              refine wpAnyH_take (i := 44) (oi := ⟨_, _, _, _, _, _⟩) (v := ?v89) rfl (by kernel_rfl) (by kernel_rfl) (by kernel_rfl) (fun _ _ _ h => h) ?y89 hS ?_
              case y89 => first | (refine Or.inr ⟨by rfl, ?_⟩; with_reducible rfl) | (refine Or.inl ⟨by rfl, ?_⟩; intro wS hSw; have q0 := cell_later hSw x0; have q1 := cell_later hSw x1; have q2 := cell_later hSw y0; have q3 := cell_later hSw y1; have q4 := cell_later hSw j0; have q5 := cell_later hSw j1; have q6 := cell_later hSw m0; have q7 := cell_later hSw m1; go_simp; try with_reducible rfl)
              simp only [Act.put, List.setIfInBounds_toArray, List.set_cons_zero, List.set_cons_succ]
              refine wpAnyH_take (i := 45) (oi := ⟨_, _, _, _, _, _⟩) (v := ?v90) rfl (by kernel_rfl) (by kernel_rfl) (by kernel_rfl) (fun _ _ _ h => h) ?y90 hS ?_
              case y90 => first | (refine Or.inr ⟨by rfl, ?_⟩; with_reducible rfl) | (refine Or.inl ⟨by rfl, ?_⟩; intro wS hSw; have q0 := cell_later hSw x0; have q1 := cell_later hSw x1; have q2 := cell_later hSw y0; have q3 := cell_later hSw y1; have q4 := cell_later hSw j0; have q5 := cell_later hSw j1; have q6 := cell_later hSw m0; have q7 := cell_later hSw m1; go_simp; try with_reducible rfl)
              simp only [Act.put, List.setIfInBounds_toArray, List.set_cons_zero, List.set_cons_succ]
              refine wpAnyH_take (i := 46) (oi := ⟨_, _, _, _, _, _⟩) (v := ?v91) rfl (by kernel_rfl) (by kernel_rfl) (by kernel_rfl) (fun _ _ _ h => h) ?y91 hS ?_
              case y91 => first | (refine Or.inr ⟨by rfl, ?_⟩; with_reducible rfl) | (refine Or.inl ⟨by rfl, ?_⟩; intro wS hSw; have q0 := cell_later hSw x0; have q1 := cell_later hSw x1; have q2 := cell_later hSw y0; have q3 := cell_later hSw y1; have q4 := cell_later hSw j0; have q5 := cell_later hSw j1; have q6 := cell_later hSw m0; have q7 := cell_later hSw m1; go_simp; try with_reducible rfl)
              simp only [Act.put, List.setIfInBounds_toArray, List.set_cons_zero, List.set_cons_succ]
              refine wpAnyH_take (i := 47) (oi := ⟨_, _, _, _, _, _⟩) (v := ?v92) rfl (by kernel_rfl) (by kernel_rfl) (by kernel_rfl) (fun _ _ _ h => h) ?y92 hS ?_
              case y92 => first | (refine Or.inr ⟨by rfl, ?_⟩; with_reducible rfl) | (refine Or.inl ⟨by rfl, ?_⟩; intro wS hSw; have q0 := cell_later hSw x0; have q1 := cell_later hSw x1; have q2 := cell_later hSw y0; have q3 := cell_later hSw y1; have q4 := cell_later hSw j0; have q5 := cell_later hSw j1; have q6 := cell_later hSw m0; have q7 := cell_later hSw m1; go_simp; try with_reducible rfl)
              simp only [Act.put, List.setIfInBounds_toArray, List.set_cons_zero, List.set_cons_succ]
              refine wpAnyH_take (i := 48) (oi := ⟨_, _, _, _, _, _⟩) (v := ?v93) rfl (by kernel_rfl) (by kernel_rfl) (by kernel_rfl) (fun _ _ _ h => h) ?y93 hS ?_
              case y93 => first | (refine Or.inr ⟨by rfl, ?_⟩; with_reducible rfl) | (refine Or.inl ⟨by rfl, ?_⟩; intro wS hSw; have q0 := cell_later hSw x0; have q1 := cell_later hSw x1; have q2 := cell_later hSw y0; have q3 := cell_later hSw y1; have q4 := cell_later hSw j0; have q5 := cell_later hSw j1; have q6 := cell_later hSw m0; have q7 := cell_later hSw m1; go_simp; try with_reducible rfl)
              simp only [Act.put, List.setIfInBounds_toArray, List.set_cons_zero, List.set_cons_succ]
              refine wpAnyH_take (i := 49) (oi := ⟨_, _, _, _, _, _⟩) (v := ?v94) rfl (by kernel_rfl) (by kernel_rfl) (by kernel_rfl) (fun _ _ _ h => h) ?y94 hS ?_
              case y94 => first | (refine Or.inr ⟨by rfl, ?_⟩; with_reducible rfl) | (refine Or.inl ⟨by rfl, ?_⟩; intro wS hSw; have q0 := cell_later hSw x0; have q1 := cell_later hSw x1; have q2 := cell_later hSw y0; have q3 := cell_later hSw y1; have q4 := cell_later hSw j0; have q5 := cell_later hSw j1; have q6 := cell_later hSw m0; have q7 := cell_later hSw m1; go_simp; try with_reducible rfl)
              simp only [Act.put, List.setIfInBounds_toArray, List.set_cons_zero, List.set_cons_succ]
              refine wpAnyH_take (i := 50) (oi := ⟨_, _, _, _, _, _⟩) (v := ?v95) rfl (by kernel_rfl) (by kernel_rfl) (by kernel_rfl) (fun _ _ _ h => h) ?y95 hS ?_
              case y95 => first | (refine Or.inr ⟨by rfl, ?_⟩; with_reducible rfl) | (refine Or.inl ⟨by rfl, ?_⟩; intro wS hSw; have q0 := cell_later hSw x0; have q1 := cell_later hSw x1; have q2 := cell_later hSw y0; have q3 := cell_later hSw y1; have q4 := cell_later hSw j0; have q5 := cell_later hSw j1; have q6 := cell_later hSw m0; have q7 := cell_later hSw m1; go_simp; try with_reducible rfl)
              simp only [Act.put, List.setIfInBounds_toArray, List.set_cons_zero, List.set_cons_succ]
              refine wpAnyH_take (i := 51) (oi := ⟨_, _, _, _, _, _⟩) (v := ?v96) rfl (by kernel_rfl) (by kernel_rfl) (by kernel_rfl) (fun _ _ _ h => h) ?y96 hS ?_
              case y96 => first | (refine Or.inr ⟨by rfl, ?_⟩; with_reducible rfl) | (refine Or.inl ⟨by rfl, ?_⟩; intro wS hSw; have q0 := cell_later hSw x0; have q1 := cell_later hSw x1; have q2 := cell_later hSw y0; have q3 := cell_later hSw y1; have q4 := cell_later hSw j0; have q5 := cell_later hSw j1; have q6 := cell_later hSw m0; have q7 := cell_later hSw m1; go_simp; try with_reducible rfl)
              simp only [Act.put, List.setIfInBounds_toArray, List.set_cons_zero, List.set_cons_succ]
              refine wpAnyH_take (i := 52) (oi := ⟨_, _, _, _, _, _⟩) (v := ?v97) rfl (by kernel_rfl) (by kernel_rfl) (by kernel_rfl) (fun _ _ _ h => h) ?y97 hS ?_
              case y97 => first | (refine Or.inr ⟨by rfl, ?_⟩; with_reducible rfl) | (refine Or.inl ⟨by rfl, ?_⟩; intro wS hSw; have q0 := cell_later hSw x0; have q1 := cell_later hSw x1; have q2 := cell_later hSw y0; have q3 := cell_later hSw y1; have q4 := cell_later hSw j0; have q5 := cell_later hSw j1; have q6 := cell_later hSw m0; have q7 := cell_later hSw m1; go_simp; try with_reducible rfl)
              simp only [Act.put, List.setIfInBounds_toArray, List.set_cons_zero, List.set_cons_succ]
              refine wpAnyH_take (i := 53) (oi := ⟨_, _, _, _, _, _⟩) (v := ?v98) rfl (by kernel_rfl) (by kernel_rfl) (by kernel_rfl) (fun _ _ _ h => h) ?y98 hS ?_
              case y98 => first | (refine Or.inr ⟨by rfl, ?_⟩; with_reducible rfl) | (refine Or.inl ⟨by rfl, ?_⟩; intro wS hSw; have q0 := cell_later hSw x0; have q1 := cell_later hSw x1; have q2 := cell_later hSw y0; have q3 := cell_later hSw y1; have q4 := cell_later hSw j0; have q5 := cell_later hSw j1; have q6 := cell_later hSw m0; have q7 := cell_later hSw m1; go_simp; try with_reducible rfl)
              simp only [Act.put, List.setIfInBounds_toArray, List.set_cons_zero, List.set_cons_succ]
              refine wpAnyH_take (i := 54) (oi := ⟨_, _, _, _, _, _⟩) (v := ?v99) rfl (by kernel_rfl) (by kernel_rfl) (by kernel_rfl) (fun _ _ _ h => h) ?y99 hS ?_
              case y99 => first | (refine Or.inr ⟨by rfl, ?_⟩; with_reducible rfl) | (refine Or.inl ⟨by rfl, ?_⟩; intro wS hSw; have q0 := cell_later hSw x0; have q1 := cell_later hSw x1; have q2 := cell_later hSw y0; have q3 := cell_later hSw y1; have q4 := cell_later hSw j0; have q5 := cell_later hSw j1; have q6 := cell_later hSw m0; have q7 := cell_later hSw m1; go_simp; try with_reducible rfl)
              simp only [Act.put, List.setIfInBounds_toArray, List.set_cons_zero, List.set_cons_succ]
              refine wpAnyH_take (i := 55) (oi := ⟨_, _, _, _, _, _⟩) (v := ?v100) rfl (by kernel_rfl) (by kernel_rfl) (by kernel_rfl) (fun _ _ _ h => h) ?y100 hS ?_
              case y100 => first | (refine Or.inr ⟨by rfl, ?_⟩; with_reducible rfl) | (refine Or.inl ⟨by rfl, ?_⟩; intro wS hSw; have q0 := cell_later hSw x0; have q1 := cell_later hSw x1; have q2 := cell_later hSw y0; have q3 := cell_later hSw y1; have q4 := cell_later hSw j0; have q5 := cell_later hSw j1; have q6 := cell_later hSw m0; have q7 := cell_later hSw m1; go_simp; try with_reducible rfl)
              simp only [Act.put, List.setIfInBounds_toArray, List.set_cons_zero, List.set_cons_succ]
              refine wpAnyH_take (i := 56) (oi := ⟨_, _, _, _, _, _⟩) (v := ?v101) rfl (by kernel_rfl) (by kernel_rfl) (by kernel_rfl) (fun _ _ _ h => h) ?y101 hS ?_
              case y101 => first | (refine Or.inr ⟨by rfl, ?_⟩; with_reducible rfl) | (refine Or.inl ⟨by rfl, ?_⟩; intro wS hSw; have q0 := cell_later hSw x0; have q1 := cell_later hSw x1; have q2 := cell_later hSw y0; have q3 := cell_later hSw y1; have q4 := cell_later hSw j0; have q5 := cell_later hSw j1; have q6 := cell_later hSw m0; have q7 := cell_later hSw m1; go_simp; try with_reducible rfl)
              simp only [Act.put, List.setIfInBounds_toArray, List.set_cons_zero, List.set_cons_succ]
              refine wpAnyH_take (i := 57) (oi := ⟨_, _, _, _, _, _⟩) (v := ?v102) rfl (by kernel_rfl) (by kernel_rfl) (by kernel_rfl) (fun _ _ _ h => h) ?y102 hS ?_
              case y102 => first | (refine Or.inr ⟨by rfl, ?_⟩; with_reducible rfl) | (refine Or.inl ⟨by rfl, ?_⟩; intro wS hSw; have q0 := cell_later hSw x0; have q1 := cell_later hSw x1; have q2 := cell_later hSw y0; have q3 := cell_later hSw y1; have q4 := cell_later hSw j0; have q5 := cell_later hSw j1; have q6 := cell_later hSw m0; have q7 := cell_later hSw m1; go_simp; try with_reducible rfl)
              simp only [Act.put, List.setIfInBounds_toArray, List.set_cons_zero, List.set_cons_succ]
              refine wpAnyH_done (by kernel_rfl) ?_ _
              have hs := HS.out.step hS
              clear hS j0 j1 m0 m1
              clear x0 x1 y0 y1 z0 z1 HS
              have HS := Lib.hid hs
              obtain ⟨x0, x1, y0, y1, z0, z1⟩ := hs.boxes
              clear hs
              go_wp2
              go_meet
              exact HS.out
          · have hdn := sg_dne hne
            have hbb : ∀ (q : Bool) (u : World), (binOp .eql 4 (.bool q) (.bool !q)).run Try.prog u = .ok (.bool false) u := by intro q u; cases q <;> go_simp
            rcases h6 with h6 | ⟨h6, ⟨mf, mt⟩, h7, h8, h9⟩
            · have hm0 : meetS ⟨a, b⟩ ⟨c, d⟩ = ⟨0, 0⟩ := meetS_no h6
              have HJ := Lib.hid (fun (u : World) (v : Value) (h : SgsAt u v [⟨a, b⟩, ⟨c, d⟩]) => sJoin_any v [⟨a, b⟩, ⟨c, d⟩] u h (by simp))
              have HM := Lib.hid (fun (u : World) (_ : Sb w X a b c d e f u) => sMeet_any a b c d u)
              rw [h3] at HJ
              rw [hm0, h6] at HM
              simp only [sgv] at HJ HM
              have E1 := Lib.hid (fun u => sIn_any a b jf jt u)
              rw [siB_eq] at E1
              rw [h4] at E1
              have E2 := Lib.hid (fun u => sIn_any c d jf jt u)
              rw [siB_eq] at E2
              rw [h5] at E2
              have E3 := Lib.hid (fun u => sIn_any 0 0 a b u)
              rw [siB_eq] at E3
              have E4 := Lib.hid (fun u => sIn_any 0 0 c d u)
              rw [siB_eq] at E4
              have E5 := Lib.hid (fun u => sLess_any a b c d u)
              have E6 := Lib.hid (fun u => sLess_any c d a b u)
              rw [h2] at E6
              have E7 := Lib.hid (fun u => sIn_any a b c d u)
              rw [siB_eq] at E7
              rw [h1] at E7
              generalize lessS ⟨a, b⟩ ⟨c, d⟩ = lq at E5 E6
              clear hne h1 h2 h3 h4 h5 h6 hm0 H10
              as_aux_lemma =>
                go_wp2_with fail
                obtain ⟨hb1, hg1⟩ := one_new wc (.cells #[.int .i64 a, .int .i64 b, .int .i64 c, .int .i64 d] 23 (0, 0))
                refine (HJ.out _ _ (new_row (l := [(⟨a, b⟩ : Sg), ⟨c, d⟩]) sgc_len hg1 (by simp) rfl)).mono ?_
                rintro e1 uu ⟨rfl, hb⟩
                have hs := HS.out.step (hb1.trans (hb.mono hb1.size))
                clear hb1 hg1 hb
                clear x0 x1 y0 y1 z0 z1 HS
                have HS := Lib.hid hs
                obtain ⟨x0, x1, y0, y1, z0, z1⟩ := hs.boxes
                clear hs
                go_upto_region 9 with (fail)
                obtain ⟨hb1, hg1⟩ := one_new uu (.cells #[.int .i64 jf, .int .i64 jt] 23 (0, 0))
                refine gen_world (S := fun v => Sb w X a b c d e f v ∧ v.heap[uu.heap.size]? = some (.cells #[.int .i64 jf, .int .i64 jt] 23 (0, 0))) ⟨HS.out.step hb1, hg1⟩ (fun u2 hv => ?_)
                obtain ⟨hs, hj⟩ := hv
                generalize uu.heap.size = J at hj ⊢
                have HJb := Lib.hid hj
                clear hj hb1 hg1
                clear x0 x1 y0 y1 z0 z1 HS
                have HS := Lib.hid hs
                obtain ⟨x0, x1, y0, y1, z0, z1⟩ := hs.boxes
                clear hs
                go_wp2_with fail
                refine (HM.out _ HS.out).mono ?_
                rintro e1 u3 ⟨rfl, hb⟩
                have hj := (hb.block _ (lt_of_block HJb.out)).trans HJb.out
                have hs := HS.out.step hb
                clear hb HJb
                have HJb := Lib.hid hj
                clear hj
                clear x0 x1 y0 y1 z0 z1 HS
                have HS := Lib.hid hs
                obtain ⟨x0, x1, y0, y1, z0, z1⟩ := hs.boxes
                clear hs
                go_upto_region 10 with (fail)
                obtain ⟨hb1, hg1⟩ := one_new u3 (.cells #[.int .i64 0, .int .i64 0] 23 (0, 0))
                refine gen_world (S := fun v => Sb w X a b c d e f v ∧ v.heap[J]? = some (.cells #[.int .i64 jf, .int .i64 jt] 23 (0, 0)) ∧ v.heap[u3.heap.size]? = some (.cells #[.int .i64 0, .int .i64 0] 23 (0, 0))) ⟨HS.out.step hb1, (hb1.block _ (lt_of_block HJb.out)).trans HJb.out, hg1⟩ (fun wr hv => ?_)
                obtain ⟨hs, hj, hm⟩ := hv
                generalize u3.heap.size = M at hm ⊢
                obtain ⟨j0, j1⟩ := two_box hj
                obtain ⟨m0, m1⟩ := two_box hm
                clear hj hm hb1 hg1 HJb HJ HM
                clear x0 x1 y0 y1 z0 z1 HS
                have HS := Lib.hid hs
                obtain ⟨x0, x1, y0, y1, z0, z1⟩ := hs.boxes
                clear hs
                have L1 := Lib.hid (lift_below (w := wr) E1.out)
                have L2 := Lib.hid (lift_below (w := wr) E2.out)
                have L3 := Lib.hid (lift_below (w := wr) E3.out)
                have L4 := Lib.hid (lift_below (w := wr) E4.out)
                have L5 := Lib.hid (lift_below (w := wr) E5.out)
                have L6 := Lib.hid (lift_below (w := wr) E6.out)
                have L7 := Lib.hid (lift_below (w := wr) E7.out)
                refine wp_region_held_drew (S := fun u => Below wr.heap.size wr u) (by kernel_rfl) ((Below.refl wr.heap.size wr).drew) (fun hS => ?_)
                refine wpAnyH_take (i := 0) (oi := ⟨_, _, _, _, _, _⟩) (v := ?v103) rfl (by kernel_rfl) (by kernel_rfl) (by kernel_rfl) (fun _ _ _ h => h) ?y103 hS ?_
                case y103 => first | (refine Or.inr ⟨by rfl, ?_⟩; with_reducible rfl) | (refine Or.inl ⟨by rfl, ?_⟩; intro wS hSw; have q0 := cell_later hSw x0; have q1 := cell_later hSw x1; have q2 := cell_later hSw y0; have q3 := cell_later hSw y1; have q4 := cell_later hSw j0; have q5 := cell_later hSw j1; have q6 := cell_later hSw m0; have q7 := cell_later hSw m1; go_simp; try with_reducible rfl)
                simp only [Act.put, List.setIfInBounds_toArray, List.set_cons_zero, List.set_cons_succ]
                refine wpAnyH_take (i := 1) (oi := ⟨_, _, _, _, _, _⟩) (v := ?v104) rfl (by kernel_rfl) (by kernel_rfl) (by kernel_rfl) (fun _ _ _ h => h) ?y104 hS ?_
                case y104 => first | (refine Or.inr ⟨by rfl, ?_⟩; with_reducible rfl) | (refine Or.inl ⟨by rfl, ?_⟩; intro wS hSw; have q0 := cell_later hSw x0; have q1 := cell_later hSw x1; have q2 := cell_later hSw y0; have q3 := cell_later hSw y1; have q4 := cell_later hSw j0; have q5 := cell_later hSw j1; have q6 := cell_later hSw m0; have q7 := cell_later hSw m1; go_simp; try with_reducible rfl)
                simp only [Act.put, List.setIfInBounds_toArray, List.set_cons_zero, List.set_cons_succ]
                refine wpAnyH_ready (rs := [2]) (by kernel_rfl) (by simp) ?_
                refine AllReadyH.cons (o := ⟨_, _, _, _, _, _⟩) rfl (fun K hK => ?_) AllReadyH.nil
                go_simp
                refine (L1.out _ hS).mono ?_
                rintro e wx ⟨rfl, hS⟩
                go_wp2_with fail
                refine hK.out _ _ hS (fun _ => ?_)
                clear hK K
                try simp only [Act.put, List.setIfInBounds_toArray, List.set_cons_zero, List.set_cons_succ]
                refine wpAnyH_take (i := 3) (oi := ⟨_, _, _, _, _, _⟩) (v := ?v105) rfl (by kernel_rfl) (by kernel_rfl) (by kernel_rfl) (fun _ _ _ h => h) ?y105 hS ?_
                case y105 => first | (refine Or.inr ⟨by rfl, ?_⟩; with_reducible rfl) | (refine Or.inl ⟨by rfl, ?_⟩; intro wS hSw; have q0 := cell_later hSw x0; have q1 := cell_later hSw x1; have q2 := cell_later hSw y0; have q3 := cell_later hSw y1; have q4 := cell_later hSw j0; have q5 := cell_later hSw j1; have q6 := cell_later hSw m0; have q7 := cell_later hSw m1; go_simp; try with_reducible rfl)
                simp only [Act.put, List.setIfInBounds_toArray, List.set_cons_zero, List.set_cons_succ]
                refine wpAnyH_take (i := 4) (oi := ⟨_, _, _, _, _, _⟩) (v := ?v106) rfl (by kernel_rfl) (by kernel_rfl) (by kernel_rfl) (fun _ _ _ h => h) ?y106 hS ?_
                case y106 => first | (refine Or.inr ⟨by rfl, ?_⟩; with_reducible rfl) | (refine Or.inl ⟨by rfl, ?_⟩; intro wS hSw; have q0 := cell_later hSw x0; have q1 := cell_later hSw x1; have q2 := cell_later hSw y0; have q3 := cell_later hSw y1; have q4 := cell_later hSw j0; have q5 := cell_later hSw j1; have q6 := cell_later hSw m0; have q7 := cell_later hSw m1; go_simp; try with_reducible rfl)
                simp only [Act.put, List.setIfInBounds_toArray, List.set_cons_zero, List.set_cons_succ]
                refine wpAnyH_take (i := 5) (oi := ⟨_, _, _, _, _, _⟩) (v := ?v107) rfl (by kernel_rfl) (by kernel_rfl) (by kernel_rfl) (fun _ _ _ h => h) ?y107 hS ?_
                case y107 => first | (refine Or.inr ⟨by rfl, ?_⟩; with_reducible rfl) | (refine Or.inl ⟨by rfl, ?_⟩; intro wS hSw; have q0 := cell_later hSw x0; have q1 := cell_later hSw x1; have q2 := cell_later hSw y0; have q3 := cell_later hSw y1; have q4 := cell_later hSw j0; have q5 := cell_later hSw j1; have q6 := cell_later hSw m0; have q7 := cell_later hSw m1; go_simp; try with_reducible rfl)
                simp only [Act.put, List.setIfInBounds_toArray, List.set_cons_zero, List.set_cons_succ]
                refine wpAnyH_take (i := 6) (oi := ⟨_, _, _, _, _, _⟩) (v := ?v108) rfl (by kernel_rfl) (by kernel_rfl) (by kernel_rfl) (fun _ _ _ h => h) ?y108 hS ?_
                case y108 => first | (refine Or.inr ⟨by rfl, ?_⟩; with_reducible rfl) | (refine Or.inl ⟨by rfl, ?_⟩; intro wS hSw; have q0 := cell_later hSw x0; have q1 := cell_later hSw x1; have q2 := cell_later hSw y0; have q3 := cell_later hSw y1; have q4 := cell_later hSw j0; have q5 := cell_later hSw j1; have q6 := cell_later hSw m0; have q7 := cell_later hSw m1; go_simp; try with_reducible rfl)
                simp only [Act.put, List.setIfInBounds_toArray, List.set_cons_zero, List.set_cons_succ]
                refine wpAnyH_ready (rs := [7]) (by kernel_rfl) (by simp) ?_
                refine AllReadyH.cons (o := ⟨_, _, _, _, _, _⟩) rfl (fun K hK => ?_) AllReadyH.nil
                go_simp
                refine (L2.out _ hS).mono ?_
                rintro e wx ⟨rfl, hS⟩
                go_wp2_with fail
                refine hK.out _ _ hS (fun _ => ?_)
                clear hK K
                try simp only [Act.put, List.setIfInBounds_toArray, List.set_cons_zero, List.set_cons_succ]
                refine wpAnyH_take (i := 8) (oi := ⟨_, _, _, _, _, _⟩) (v := ?v109) rfl (by kernel_rfl) (by kernel_rfl) (by kernel_rfl) (fun _ _ _ h => h) ?y109 hS ?_
                case y109 => first | (refine Or.inr ⟨by rfl, ?_⟩; with_reducible rfl) | (refine Or.inl ⟨by rfl, ?_⟩; intro wS hSw; have q0 := cell_later hSw x0; have q1 := cell_later hSw x1; have q2 := cell_later hSw y0; have q3 := cell_later hSw y1; have q4 := cell_later hSw j0; have q5 := cell_later hSw j1; have q6 := cell_later hSw m0; have q7 := cell_later hSw m1; go_simp; try with_reducible rfl)
                simp only [Act.put, List.setIfInBounds_toArray, List.set_cons_zero, List.set_cons_succ]
                refine wpAnyH_take (i := 9) (oi := ⟨_, _, _, _, _, _⟩) (v := ?v110) rfl (by kernel_rfl) (by kernel_rfl) (by kernel_rfl) (fun _ _ _ h => h) ?y110 hS ?_
                case y110 => first | (refine Or.inr ⟨by rfl, ?_⟩; with_reducible rfl) | (refine Or.inl ⟨by rfl, ?_⟩; intro wS hSw; have q0 := cell_later hSw x0; have q1 := cell_later hSw x1; have q2 := cell_later hSw y0; have q3 := cell_later hSw y1; have q4 := cell_later hSw j0; have q5 := cell_later hSw j1; have q6 := cell_later hSw m0; have q7 := cell_later hSw m1; go_simp; try with_reducible rfl)
                simp only [Act.put, List.setIfInBounds_toArray, List.set_cons_zero, List.set_cons_succ]
                refine wpAnyH_take (i := 10) (oi := ⟨_, _, _, _, _, _⟩) (v := ?v111) rfl (by kernel_rfl) (by kernel_rfl) (by kernel_rfl) (fun _ _ _ h => h) ?y111 hS ?_
                case y111 => first | (refine Or.inr ⟨by rfl, ?_⟩; with_reducible rfl) | (refine Or.inl ⟨by rfl, ?_⟩; intro wS hSw; have q0 := cell_later hSw x0; have q1 := cell_later hSw x1; have q2 := cell_later hSw y0; have q3 := cell_later hSw y1; have q4 := cell_later hSw j0; have q5 := cell_later hSw j1; have q6 := cell_later hSw m0; have q7 := cell_later hSw m1; go_simp; try with_reducible rfl)
                simp only [Act.put, List.setIfInBounds_toArray, List.set_cons_zero, List.set_cons_succ]
                refine wpAnyH_take (i := 11) (oi := ⟨_, _, _, _, _, _⟩) (v := ?v112) rfl (by kernel_rfl) (by kernel_rfl) (by kernel_rfl) (fun _ _ _ h => h) ?y112 hS ?_
                case y112 => first | (refine Or.inr ⟨by rfl, ?_⟩; with_reducible rfl) | (refine Or.inl ⟨by rfl, ?_⟩; intro wS hSw; have q0 := cell_later hSw x0; have q1 := cell_later hSw x1; have q2 := cell_later hSw y0; have q3 := cell_later hSw y1; have q4 := cell_later hSw j0; have q5 := cell_later hSw j1; have q6 := cell_later hSw m0; have q7 := cell_later hSw m1; go_simp; try with_reducible rfl)
                simp only [Act.put, List.setIfInBounds_toArray, List.set_cons_zero, List.set_cons_succ]
                refine wpAnyH_take (i := 12) (oi := ⟨_, _, _, _, _, _⟩) (v := ?v113) rfl (by kernel_rfl) (by kernel_rfl) (by kernel_rfl) (fun _ _ _ h => h) ?y113 hS ?_
                case y113 => first | (refine Or.inr ⟨by rfl, ?_⟩; with_reducible rfl) | (refine Or.inl ⟨by rfl, ?_⟩; intro wS hSw; have q0 := cell_later hSw x0; have q1 := cell_later hSw x1; have q2 := cell_later hSw y0; have q3 := cell_later hSw y1; have q4 := cell_later hSw j0; have q5 := cell_later hSw j1; have q6 := cell_later hSw m0; have q7 := cell_later hSw m1; go_simp; try with_reducible rfl)
                simp only [Act.put, List.setIfInBounds_toArray, List.set_cons_zero, List.set_cons_succ]
                refine wpAnyH_take (i := 13) (oi := ⟨_, _, _, _, _, _⟩) (v := ?v114) rfl (by kernel_rfl) (by kernel_rfl) (by kernel_rfl) (fun _ _ _ h => h) ?y114 hS ?_
                case y114 => first | (refine Or.inr ⟨by rfl, ?_⟩; with_reducible rfl) | (refine Or.inl ⟨by rfl, ?_⟩; intro wS hSw; have q0 := cell_later hSw x0; have q1 := cell_later hSw x1; have q2 := cell_later hSw y0; have q3 := cell_later hSw y1; have q4 := cell_later hSw j0; have q5 := cell_later hSw j1; have q6 := cell_later hSw m0; have q7 := cell_later hSw m1; go_simp; try with_reducible rfl)
                simp only [Act.put, List.setIfInBounds_toArray, List.set_cons_zero, List.set_cons_succ]
                refine wpAnyH_take (i := 14) (oi := ⟨_, _, _, _, _, _⟩) (v := ?v115) rfl (by kernel_rfl) (by kernel_rfl) (by kernel_rfl) (fun _ _ _ h => h) ?y115 hS ?_
                case y115 => first | (refine Or.inr ⟨by rfl, ?_⟩; with_reducible rfl) | (refine Or.inl ⟨by rfl, ?_⟩; intro wS hSw; have q0 := cell_later hSw x0; have q1 := cell_later hSw x1; have q2 := cell_later hSw y0; have q3 := cell_later hSw y1; have q4 := cell_later hSw j0; have q5 := cell_later hSw j1; have q6 := cell_later hSw m0; have q7 := cell_later hSw m1; go_simp; try with_reducible rfl)
                simp only [Act.put, List.setIfInBounds_toArray, List.set_cons_zero, List.set_cons_succ]
                refine wpAnyH_ready (rs := [15]) (by kernel_rfl) (by simp) ?_
                refine AllReadyH.cons (o := ⟨_, _, _, _, _, _⟩) rfl (fun K hK => ?_) AllReadyH.nil
                go_simp
                refine hK.out _ _ hS (fun _ => ?_)
                clear hK K
                try simp only [Act.put, List.setIfInBounds_toArray, List.set_cons_zero, List.set_cons_succ]
                refine wpAnyH_take (i := 16) (oi := ⟨_, _, _, _, _, _⟩) (v := ?v116) rfl (by kernel_rfl) (by kernel_rfl) (by kernel_rfl) (fun _ _ _ h => h) ?y116 hS ?_
                case y116 => first | (refine Or.inr ⟨by rfl, ?_⟩; with_reducible rfl) | (refine Or.inl ⟨by rfl, ?_⟩; intro wS hSw; have q0 := cell_later hSw x0; have q1 := cell_later hSw x1; have q2 := cell_later hSw y0; have q3 := cell_later hSw y1; have q4 := cell_later hSw j0; have q5 := cell_later hSw j1; have q6 := cell_later hSw m0; have q7 := cell_later hSw m1; go_simp; try with_reducible rfl)
                simp only [Act.put, List.setIfInBounds_toArray, List.set_cons_zero, List.set_cons_succ]
                refine wpAnyH_take (i := 17) (oi := ⟨_, _, _, _, _, _⟩) (v := ?v117) rfl (by kernel_rfl) (by kernel_rfl) (by kernel_rfl) (fun _ _ _ h => h) ?y117 hS ?_
                case y117 => first | (refine Or.inr ⟨by rfl, ?_⟩; with_reducible rfl) | (refine Or.inl ⟨by rfl, ?_⟩; intro wS hSw; have q0 := cell_later hSw x0; have q1 := cell_later hSw x1; have q2 := cell_later hSw y0; have q3 := cell_later hSw y1; have q4 := cell_later hSw j0; have q5 := cell_later hSw j1; have q6 := cell_later hSw m0; have q7 := cell_later hSw m1; go_simp; try with_reducible rfl)
                simp only [Act.put, List.setIfInBounds_toArray, List.set_cons_zero, List.set_cons_succ]
                refine wpAnyH_take (i := 18) (oi := ⟨_, _, _, _, _, _⟩) (v := ?v118) rfl (by kernel_rfl) (by kernel_rfl) (by kernel_rfl) (fun _ _ _ h => h) ?y118 hS ?_
                case y118 => first | (refine Or.inr ⟨by rfl, ?_⟩; with_reducible rfl) | (refine Or.inl ⟨by rfl, ?_⟩; intro wS hSw; have q0 := cell_later hSw x0; have q1 := cell_later hSw x1; have q2 := cell_later hSw y0; have q3 := cell_later hSw y1; have q4 := cell_later hSw j0; have q5 := cell_later hSw j1; have q6 := cell_later hSw m0; have q7 := cell_later hSw m1; go_simp; try with_reducible rfl)
                simp only [Act.put, List.setIfInBounds_toArray, List.set_cons_zero, List.set_cons_succ]
                refine wpAnyH_take (i := 19) (oi := ⟨_, _, _, _, _, _⟩) (v := ?v119) rfl (by kernel_rfl) (by kernel_rfl) (by kernel_rfl) (fun _ _ _ h => h) ?y119 hS ?_
                case y119 => first | (refine Or.inr ⟨by rfl, ?_⟩; with_reducible rfl) | (refine Or.inl ⟨by rfl, ?_⟩; intro wS hSw; have q0 := cell_later hSw x0; have q1 := cell_later hSw x1; have q2 := cell_later hSw y0; have q3 := cell_later hSw y1; have q4 := cell_later hSw j0; have q5 := cell_later hSw j1; have q6 := cell_later hSw m0; have q7 := cell_later hSw m1; go_simp; try with_reducible rfl)
                simp only [Act.put, List.setIfInBounds_toArray, List.set_cons_zero, List.set_cons_succ]
                refine wpAnyH_ready (rs := [20]) (by kernel_rfl) (by simp) ?_
                refine AllReadyH.cons (o := ⟨_, _, _, _, _, _⟩) rfl (fun K hK => ?_) AllReadyH.nil
                go_simp
                refine hK.out _ _ hS (fun _ => ?_)
                clear hK K
                try simp only [Act.put, List.setIfInBounds_toArray, List.set_cons_zero, List.set_cons_succ]
                refine wpAnyH_take (i := 21) (oi := ⟨_, _, _, _, _, _⟩) (v := ?v120) rfl (by kernel_rfl) (by kernel_rfl) (by kernel_rfl) (fun _ _ _ h => h) ?y120 hS ?_
                case y120 => first | (refine Or.inr ⟨by rfl, ?_⟩; with_reducible rfl) | (refine Or.inl ⟨by rfl, ?_⟩; intro wS hSw; have q0 := cell_later hSw x0; have q1 := cell_later hSw x1; have q2 := cell_later hSw y0; have q3 := cell_later hSw y1; have q4 := cell_later hSw j0; have q5 := cell_later hSw j1; have q6 := cell_later hSw m0; have q7 := cell_later hSw m1; go_simp; try with_reducible rfl)
                simp only [Act.put, List.setIfInBounds_toArray, List.set_cons_zero, List.set_cons_succ]
                refine wpAnyH_take (i := 22) (oi := ⟨_, _, _, _, _, _⟩) (v := ?v121) rfl (by kernel_rfl) (by kernel_rfl) (by kernel_rfl) (fun _ _ _ h => h) ?y121 hS ?_
                case y121 => first | (refine Or.inr ⟨by rfl, ?_⟩; with_reducible rfl) | (refine Or.inl ⟨by rfl, ?_⟩; intro wS hSw; have q0 := cell_later hSw x0; have q1 := cell_later hSw x1; have q2 := cell_later hSw y0; have q3 := cell_later hSw y1; have q4 := cell_later hSw j0; have q5 := cell_later hSw j1; have q6 := cell_later hSw m0; have q7 := cell_later hSw m1; go_simp; try with_reducible rfl)
                simp only [Act.put, List.setIfInBounds_toArray, List.set_cons_zero, List.set_cons_succ]
                refine wpAnyH_take (i := 23) (oi := ⟨_, _, _, _, _, _⟩) (v := ?v122) rfl (by kernel_rfl) (by kernel_rfl) (by kernel_rfl) (fun _ _ _ h => h) ?y122 hS ?_
                case y122 => first | (refine Or.inr ⟨by rfl, ?_⟩; with_reducible rfl) | (refine Or.inl ⟨by rfl, ?_⟩; intro wS hSw; have q0 := cell_later hSw x0; have q1 := cell_later hSw x1; have q2 := cell_later hSw y0; have q3 := cell_later hSw y1; have q4 := cell_later hSw j0; have q5 := cell_later hSw j1; have q6 := cell_later hSw m0; have q7 := cell_later hSw m1; go_simp; try with_reducible rfl)
                simp only [Act.put, List.setIfInBounds_toArray, List.set_cons_zero, List.set_cons_succ]
                refine wpAnyH_take (i := 24) (oi := ⟨_, _, _, _, _, _⟩) (v := ?v123) rfl (by kernel_rfl) (by kernel_rfl) (by kernel_rfl) (fun _ _ _ h => h) ?y123 hS ?_
                case y123 => first | (refine Or.inr ⟨by rfl, ?_⟩; with_reducible rfl) | (refine Or.inl ⟨by rfl, ?_⟩; intro wS hSw; have q0 := cell_later hSw x0; have q1 := cell_later hSw x1; have q2 := cell_later hSw y0; have q3 := cell_later hSw y1; have q4 := cell_later hSw j0; have q5 := cell_later hSw j1; have q6 := cell_later hSw m0; have q7 := cell_later hSw m1; go_simp; try with_reducible rfl)
                simp only [Act.put, List.setIfInBounds_toArray, List.set_cons_zero, List.set_cons_succ]
                refine wpAnyH_take (i := 25) (oi := ⟨_, _, _, _, _, _⟩) (v := ?v124) rfl (by kernel_rfl) (by kernel_rfl) (by kernel_rfl) (fun _ _ _ h => h) ?y124 hS ?_
                case y124 => first | (refine Or.inr ⟨by rfl, ?_⟩; with_reducible rfl) | (refine Or.inl ⟨by rfl, ?_⟩; intro wS hSw; have q0 := cell_later hSw x0; have q1 := cell_later hSw x1; have q2 := cell_later hSw y0; have q3 := cell_later hSw y1; have q4 := cell_later hSw j0; have q5 := cell_later hSw j1; have q6 := cell_later hSw m0; have q7 := cell_later hSw m1; go_simp; try with_reducible rfl)
                simp only [Act.put, List.setIfInBounds_toArray, List.set_cons_zero, List.set_cons_succ]
                refine wpAnyH_take (i := 26) (oi := ⟨_, _, _, _, _, _⟩) (v := ?v125) rfl (by kernel_rfl) (by kernel_rfl) (by kernel_rfl) (fun _ _ _ h => h) ?y125 hS ?_
                case y125 => first | (refine Or.inr ⟨by rfl, ?_⟩; with_reducible rfl) | (refine Or.inl ⟨by rfl, ?_⟩; intro wS hSw; have q0 := cell_later hSw x0; have q1 := cell_later hSw x1; have q2 := cell_later hSw y0; have q3 := cell_later hSw y1; have q4 := cell_later hSw j0; have q5 := cell_later hSw j1; have q6 := cell_later hSw m0; have q7 := cell_later hSw m1; go_simp; try with_reducible rfl)
                simp only [Act.put, List.setIfInBounds_toArray, List.set_cons_zero, List.set_cons_succ]
                refine wpAnyH_take (i := 27) (oi := ⟨_, _, _, _, _, _⟩) (v := ?v126) rfl (by kernel_rfl) (by kernel_rfl) (by kernel_rfl) (fun _ _ _ h => h) ?y126 hS ?_
                case y126 => first | (refine Or.inr ⟨by rfl, ?_⟩; with_reducible rfl) | (refine Or.inl ⟨by rfl, ?_⟩; intro wS hSw; have q0 := cell_later hSw x0; have q1 := cell_later hSw x1; have q2 := cell_later hSw y0; have q3 := cell_later hSw y1; have q4 := cell_later hSw j0; have q5 := cell_later hSw j1; have q6 := cell_later hSw m0; have q7 := cell_later hSw m1; go_simp; try with_reducible rfl)
                simp only [Act.put, List.setIfInBounds_toArray, List.set_cons_zero, List.set_cons_succ]
                refine wpAnyH_take (i := 28) (oi := ⟨_, _, _, _, _, _⟩) (v := ?v127) rfl (by kernel_rfl) (by kernel_rfl) (by kernel_rfl) (fun _ _ _ h => h) ?y127 hS ?_
                case y127 => first | (refine Or.inr ⟨by rfl, ?_⟩; with_reducible rfl) | (refine Or.inl ⟨by rfl, ?_⟩; intro wS hSw; have q0 := cell_later hSw x0; have q1 := cell_later hSw x1; have q2 := cell_later hSw y0; have q3 := cell_later hSw y1; have q4 := cell_later hSw j0; have q5 := cell_later hSw j1; have q6 := cell_later hSw m0; have q7 := cell_later hSw m1; go_simp; try with_reducible rfl)
                simp only [Act.put, List.setIfInBounds_toArray, List.set_cons_zero, List.set_cons_succ]
                refine wpAnyH_take (i := 29) (oi := ⟨_, _, _, _, _, _⟩) (v := ?v128) rfl (by kernel_rfl) (by kernel_rfl) (by kernel_rfl) (fun _ _ _ h => h) ?y128 hS ?_
                case y128 => first | (refine Or.inr ⟨by rfl, ?_⟩; with_reducible rfl) | (refine Or.inl ⟨by rfl, ?_⟩; intro wS hSw; have q0 := cell_later hSw x0; have q1 := cell_later hSw x1; have q2 := cell_later hSw y0; have q3 := cell_later hSw y1; have q4 := cell_later hSw j0; have q5 := cell_later hSw j1; have q6 := cell_later hSw m0; have q7 := cell_later hSw m1; go_simp; try with_reducible rfl)
                simp only [Act.put, List.setIfInBounds_toArray, List.set_cons_zero, List.set_cons_succ]
                refine wpAnyH_take (i := 30) (oi := ⟨_, _, _, _, _, _⟩) (v := ?v129) rfl (by kernel_rfl) (by kernel_rfl) (by kernel_rfl) (fun _ _ _ h => h) ?y129 hS ?_
                case y129 => first | (refine Or.inr ⟨by rfl, ?_⟩; with_reducible rfl) | (refine Or.inl ⟨by rfl, ?_⟩; intro wS hSw; have q0 := cell_later hSw x0; have q1 := cell_later hSw x1; have q2 := cell_later hSw y0; have q3 := cell_later hSw y1; have q4 := cell_later hSw j0; have q5 := cell_later hSw j1; have q6 := cell_later hSw m0; have q7 := cell_later hSw m1; go_simp; try with_reducible rfl)
                simp only [Act.put, List.setIfInBounds_toArray, List.set_cons_zero, List.set_cons_succ]
                refine wpAnyH_take (i := 31) (oi := ⟨_, _, _, _, _, _⟩) (v := ?v130) rfl (by kernel_rfl) (by kernel_rfl) (by kernel_rfl) (fun _ _ _ h => h) ?y130 hS ?_
                case y130 => first | (refine Or.inr ⟨by rfl, ?_⟩; with_reducible rfl) | (refine Or.inl ⟨by rfl, ?_⟩; intro wS hSw; have q0 := cell_later hSw x0; have q1 := cell_later hSw x1; have q2 := cell_later hSw y0; have q3 := cell_later hSw y1; have q4 := cell_later hSw j0; have q5 := cell_later hSw j1; have q6 := cell_later hSw m0; have q7 := cell_later hSw m1; go_simp; try with_reducible rfl)
                simp only [Act.put, List.setIfInBounds_toArray, List.set_cons_zero, List.set_cons_succ]
                refine wpAnyH_take (i := 33) (oi := ⟨_, _, _, _, _, _⟩) (v := ?v131) rfl (by kernel_rfl) (by kernel_rfl) (by kernel_rfl) (fun _ _ _ h => h) ?y131 hS ?_
                case y131 => first | (refine Or.inr ⟨by rfl, ?_⟩; with_reducible rfl) | (refine Or.inl ⟨by rfl, ?_⟩; intro wS hSw; have q0 := cell_later hSw x0; have q1 := cell_later hSw x1; have q2 := cell_later hSw y0; have q3 := cell_later hSw y1; have q4 := cell_later hSw j0; have q5 := cell_later hSw j1; have q6 := cell_later hSw m0; have q7 := cell_later hSw m1; go_simp; try with_reducible rfl)
                simp only [Act.put, List.setIfInBounds_toArray, List.set_cons_zero, List.set_cons_succ]
                refine wpAnyH_take (i := 34) (oi := ⟨_, _, _, _, _, _⟩) (v := ?v132) rfl (by kernel_rfl) (by kernel_rfl) (by kernel_rfl) (fun _ _ _ h => h) ?y132 hS ?_
                case y132 => first | (refine Or.inr ⟨by rfl, ?_⟩; with_reducible rfl) | (refine Or.inl ⟨by rfl, ?_⟩; intro wS hSw; have q0 := cell_later hSw x0; have q1 := cell_later hSw x1; have q2 := cell_later hSw y0; have q3 := cell_later hSw y1; have q4 := cell_later hSw j0; have q5 := cell_later hSw j1; have q6 := cell_later hSw m0; have q7 := cell_later hSw m1; go_simp; try with_reducible rfl)
                simp only [Act.put, List.setIfInBounds_toArray, List.set_cons_zero, List.set_cons_succ]
                refine wpAnyH_ready (rs := [32]) (by kernel_rfl) (by simp) ?_
                refine AllReadyH.cons (o := ⟨_, _, _, _, _, _⟩) rfl (fun K hK => ?_) AllReadyH.nil
                go_simp
                refine (L5.out _ hS).mono ?_
                rintro e wx ⟨rfl, hS⟩
                go_wp2_with fail
                refine hK.out _ _ hS (fun _ => ?_)
                clear hK K
                try simp only [Act.put, List.setIfInBounds_toArray, List.set_cons_zero, List.set_cons_succ]
                refine wpAnyH_ready (rs := [35]) (by kernel_rfl) (by simp) ?_
                refine AllReadyH.cons (o := ⟨_, _, _, _, _, _⟩) rfl (fun K hK => ?_) AllReadyH.nil
                go_simp
                refine (L6.out _ hS).mono ?_
                rintro e wx ⟨rfl, hS⟩
                go_wp2_with fail
                refine hK.out _ _ hS (fun _ => ?_)
                clear hK K
                try simp only [Act.put, List.setIfInBounds_toArray, List.set_cons_zero, List.set_cons_succ]
                refine wpAnyH_take (i := 36) (oi := ⟨_, _, _, _, _, _⟩) (v := ?v133) rfl (by kernel_rfl) (by kernel_rfl) (by kernel_rfl) (fun _ _ _ h => h) ?y133 hS ?_
                case y133 => first | (refine Or.inr ⟨by rfl, ?_⟩; with_reducible rfl) | (refine Or.inl ⟨by rfl, ?_⟩; intro wS hSw; have q0 := cell_later hSw x0; have q1 := cell_later hSw x1; have q2 := cell_later hSw y0; have q3 := cell_later hSw y1; have q4 := cell_later hSw j0; have q5 := cell_later hSw j1; have q6 := cell_later hSw m0; have q7 := cell_later hSw m1; go_simp; try with_reducible rfl)
                simp only [Act.put, List.setIfInBounds_toArray, List.set_cons_zero, List.set_cons_succ]
                refine wpAnyH_take (i := 37) (oi := ⟨_, _, _, _, _, _⟩) (v := ?v134) rfl (by kernel_rfl) (by kernel_rfl) (by kernel_rfl) (fun _ _ _ h => h) ?y134 hS ?_
                case y134 => first | (refine Or.inr ⟨by rfl, ?_⟩; with_reducible rfl) | (refine Or.inl ⟨by rfl, ?_⟩; intro wS hSw; have q0 := cell_later hSw x0; have q1 := cell_later hSw x1; have q2 := cell_later hSw y0; have q3 := cell_later hSw y1; have q4 := cell_later hSw j0; have q5 := cell_later hSw j1; have q6 := cell_later hSw m0; have q7 := cell_later hSw m1; go_simp; try with_reducible rfl)
                simp only [Act.put, List.setIfInBounds_toArray, List.set_cons_zero, List.set_cons_succ]
                refine wpAnyH_take (i := 38) (oi := ⟨_, _, _, _, _, _⟩) (v := ?v135) rfl (by kernel_rfl) (by kernel_rfl) (by kernel_rfl) (fun _ _ _ h => h) ?y135 hS ?_
                case y135 => first | (refine Or.inr ⟨by rfl, ?_⟩; with_reducible rfl) | (refine Or.inl ⟨by rfl, ?_⟩; intro wS hSw; have q0 := cell_later hSw x0; have q1 := cell_later hSw x1; have q2 := cell_later hSw y0; have q3 := cell_later hSw y1; have q4 := cell_later hSw j0; have q5 := cell_later hSw j1; have q6 := cell_later hSw m0; have q7 := cell_later hSw m1; go_simp; try with_reducible rfl)
                simp only [Act.put, List.setIfInBounds_toArray, List.set_cons_zero, List.set_cons_succ]
                refine wpAnyH_take (i := 39) (oi := ⟨_, _, _, _, _, _⟩) (v := ?v136) rfl (by kernel_rfl) (by kernel_rfl) (by kernel_rfl) (fun _ _ _ h => h) ?y136 hS ?_
                case y136 => first | (refine Or.inr ⟨by rfl, ?_⟩; with_reducible rfl) | (refine Or.inl ⟨by rfl, ?_⟩; intro wS hSw; have q0 := cell_later hSw x0; have q1 := cell_later hSw x1; have q2 := cell_later hSw y0; have q3 := cell_later hSw y1; have q4 := cell_later hSw j0; have q5 := cell_later hSw j1; have q6 := cell_later hSw m0; have q7 := cell_later hSw m1; go_simp; try with_reducible rfl)
                simp only [Act.put, List.setIfInBounds_toArray, List.set_cons_zero, List.set_cons_succ]
                refine wpAnyH_take (i := 40) (oi := ⟨_, _, _, _, _, _⟩) (v := ?v137) rfl (by kernel_rfl) (by kernel_rfl) (by kernel_rfl) (fun _ _ _ h => h) ?y137 hS ?_
                case y137 => first | (refine Or.inr ⟨by rfl, ?_⟩; with_reducible rfl) | (refine Or.inl ⟨by rfl, ?_⟩; intro wS hSw; have q0 := cell_later hSw x0; have q1 := cell_later hSw x1; have q2 := cell_later hSw y0; have q3 := cell_later hSw y1; have q4 := cell_later hSw j0; have q5 := cell_later hSw j1; have q6 := cell_later hSw m0; have q7 := cell_later hSw m1; go_simp; try with_reducible rfl)
                simp only [Act.put, List.setIfInBounds_toArray, List.set_cons_zero, List.set_cons_succ]
                refine wpAnyH_take (i := 41) (oi := ⟨_, _, _, _, _, _⟩) (v := ?v138) rfl (by kernel_rfl) (by kernel_rfl) (by kernel_rfl) (fun _ _ _ h => h) ?y138 hS ?_
                case y138 => first | (refine Or.inr ⟨by rfl, ?_⟩; with_reducible rfl) | (refine Or.inl ⟨by rfl, ?_⟩; intro wS hSw; have q0 := cell_later hSw x0; have q1 := cell_later hSw x1; have q2 := cell_later hSw y0; have q3 := cell_later hSw y1; have q4 := cell_later hSw j0; have q5 := cell_later hSw j1; have q6 := cell_later hSw m0; have q7 := cell_later hSw m1; go_simp; try with_reducible rfl)
                simp only [Act.put, List.setIfInBounds_toArray, List.set_cons_zero, List.set_cons_succ]
                refine wpAnyH_ready (rs := [42]) (by kernel_rfl) (by simp) ?_
                refine AllReadyH.cons (o := ⟨_, _, _, _, _, _⟩) rfl (fun K hK => ?_) AllReadyH.nil
                go_simp
                refine (L7.out _ hS).mono ?_
                rintro e wx ⟨rfl, hS⟩
                go_wp2_with fail
                refine hK.out _ _ hS (fun _ => ?_)
                clear hK K
                try simp only [Act.put, List.setIfInBounds_toArray, List.set_cons_zero, List.set_cons_succ]
                refine wpAnyH_take (i := 43) (oi := ⟨_, _, _, _, _, _⟩) (v := ?v139) rfl (by kernel_rfl) (by kernel_rfl) (by kernel_rfl) (fun _ _ _ h => h) ?y139 hS ?_
                case y139 => first | (refine Or.inr ⟨by rfl, ?_⟩; with_reducible rfl) | (refine Or.inl ⟨by rfl, ?_⟩; intro wS hSw; have q0 := cell_later hSw x0; have q1 := cell_later hSw x1; have q2 := cell_later hSw y0; have q3 := cell_later hSw y1; have q4 := cell_later hSw j0; have q5 := cell_later hSw j1; have q6 := cell_later hSw m0; have q7 := cell_later hSw m1; go_simp; try with_reducible rfl)
                simp only [Act.put, List.setIfInBounds_toArray, List.set_cons_zero, List.set_cons_succ]
                refine wpAnyH_take (i := 44) (oi := ⟨_, _, _, _, _, _⟩) (v := ?v140) rfl (by kernel_rfl) (by kernel_rfl) (by kernel_rfl) (fun _ _ _ h => h) ?y140 hS ?_
                case y140 => first | (refine Or.inr ⟨by rfl, ?_⟩; with_reducible rfl) | (refine Or.inl ⟨by rfl, ?_⟩; intro wS hSw; have q0 := cell_later hSw x0; have q1 := cell_later hSw x1; have q2 := cell_later hSw y0; have q3 := cell_later hSw y1; have q4 := cell_later hSw j0; have q5 := cell_later hSw j1; have q6 := cell_later hSw m0; have q7 := cell_later hSw m1; go_simp; try with_reducible rfl)
                simp only [Act.put, List.setIfInBounds_toArray, List.set_cons_zero, List.set_cons_succ]
                refine wpAnyH_take (i := 45) (oi := ⟨_, _, _, _, _, _⟩) (v := ?v141) rfl (by kernel_rfl) (by kernel_rfl) (by kernel_rfl) (fun _ _ _ h => h) ?y141 hS ?_
                case y141 => first | (refine Or.inr ⟨by rfl, ?_⟩; with_reducible rfl) | (refine Or.inl ⟨by rfl, ?_⟩; intro wS hSw; have q0 := cell_later hSw x0; have q1 := cell_later hSw x1; have q2 := cell_later hSw y0; have q3 := cell_later hSw y1; have q4 := cell_later hSw j0; have q5 := cell_later hSw j1; have q6 := cell_later hSw m0; have q7 := cell_later hSw m1; go_simp; try with_reducible rfl)
                simp only [Act.put, List.setIfInBounds_toArray, List.set_cons_zero, List.set_cons_succ]
                refine wpAnyH_take (i := 46) (oi := ⟨_, _, _, _, _, _⟩) (v := ?v142) rfl (by kernel_rfl) (by kernel_rfl) (by kernel_rfl) (fun _ _ _ h => h) ?y142 hS ?_
                case y142 => first | (refine Or.inr ⟨by rfl, ?_⟩; with_reducible rfl) | (refine Or.inl ⟨by rfl, ?_⟩; intro wS hSw; have q0 := cell_later hSw x0; have q1 := cell_later hSw x1; have q2 := cell_later hSw y0; have q3 := cell_later hSw y1; have q4 := cell_later hSw j0; have q5 := cell_later hSw j1; have q6 := cell_later hSw m0; have q7 := cell_later hSw m1; go_simp; try with_reducible rfl)
                simp only [Act.put, List.setIfInBounds_toArray, List.set_cons_zero, List.set_cons_succ]
                refine wpAnyH_take (i := 47) (oi := ⟨_, _, _, _, _, _⟩) (v := ?v143) rfl (by kernel_rfl) (by kernel_rfl) (by kernel_rfl) (fun _ _ _ h => h) ?y143 hS ?_
                case y143 => first | (refine Or.inr ⟨by rfl, ?_⟩; with_reducible rfl) | (refine Or.inl ⟨by rfl, ?_⟩; intro wS hSw; have q0 := cell_later hSw x0; have q1 := cell_later hSw x1; have q2 := cell_later hSw y0; have q3 := cell_later hSw y1; have q4 := cell_later hSw j0; have q5 := cell_later hSw j1; have q6 := cell_later hSw m0; have q7 := cell_later hSw m1; go_simp; try with_reducible rfl)
                simp only [Act.put, List.setIfInBounds_toArray, List.set_cons_zero, List.set_cons_succ]
                refine wpAnyH_take (i := 48) (oi := ⟨_, _, _, _, _, _⟩) (v := ?v144) rfl (by kernel_rfl) (by kernel_rfl) (by kernel_rfl) (fun _ _ _ h => h) ?y144 hS ?_
                case y144 => first | (refine Or.inr ⟨by rfl, ?_⟩; with_reducible rfl) | (refine Or.inl ⟨by rfl, ?_⟩; intro wS hSw; have q0 := cell_later hSw x0; have q1 := cell_later hSw x1; have q2 := cell_later hSw y0; have q3 := cell_later hSw y1; have q4 := cell_later hSw j0; have q5 := cell_later hSw j1; have q6 := cell_later hSw m0; have q7 := cell_later hSw m1; go_simp; try with_reducible rfl)
                simp only [Act.put, List.setIfInBounds_toArray, List.set_cons_zero, List.set_cons_succ]
                refine wpAnyH_take (i := 49) (oi := ⟨_, _, _, _, _, _⟩) (v := ?v145) rfl (by kernel_rfl) (by kernel_rfl) (by kernel_rfl) (fun _ _ _ h => h) ?y145 hS ?_
                case y145 => first | (refine Or.inr ⟨by rfl, ?_⟩; with_reducible rfl) | (refine Or.inl ⟨by rfl, ?_⟩; intro wS hSw; have q0 := cell_later hSw x0; have q1 := cell_later hSw x1; have q2 := cell_later hSw y0; have q3 := cell_later hSw y1; have q4 := cell_later hSw j0; have q5 := cell_later hSw j1; have q6 := cell_later hSw m0; have q7 := cell_later hSw m1; go_simp; try with_reducible rfl)
                simp only [Act.put, List.setIfInBounds_toArray, List.set_cons_zero, List.set_cons_succ]
                refine wpAnyH_take (i := 50) (oi := ⟨_, _, _, _, _, _⟩) (v := ?v146) rfl (by kernel_rfl) (by kernel_rfl) (by kernel_rfl) (fun _ _ _ h => h) ?y146 hS ?_
                case y146 => first | (refine Or.inr ⟨by rfl, ?_⟩; with_reducible rfl) | (refine Or.inl ⟨by rfl, ?_⟩; intro wS hSw; have q0 := cell_later hSw x0; have q1 := cell_later hSw x1; have q2 := cell_later hSw y0; have q3 := cell_later hSw y1; have q4 := cell_later hSw j0; have q5 := cell_later hSw j1; have q6 := cell_later hSw m0; have q7 := cell_later hSw m1; go_simp; try with_reducible rfl)
                simp only [Act.put, List.setIfInBounds_toArray, List.set_cons_zero, List.set_cons_succ]
                refine wpAnyH_take (i := 51) (oi := ⟨_, _, _, _, _, _⟩) (v := ?v147) rfl (by kernel_rfl) (by kernel_rfl) (by kernel_rfl) (fun _ _ _ h => h) ?y147 hS ?_
                case y147 => first | (refine Or.inr ⟨by rfl, ?_⟩; with_reducible rfl) | (refine Or.inl ⟨by rfl, ?_⟩; intro wS hSw; have q0 := cell_later hSw x0; have q1 := cell_later hSw x1; have q2 := cell_later hSw y0; have q3 := cell_later hSw y1; have q4 := cell_later hSw j0; have q5 := cell_later hSw j1; have q6 := cell_later hSw m0; have q7 := cell_later hSw m1; go_simp; try with_reducible rfl)
                simp only [Act.put, List.setIfInBounds_toArray, List.set_cons_zero, List.set_cons_succ]
                refine wpAnyH_take (i := 52) (oi := ⟨_, _, _, _, _, _⟩) (v := ?v148) rfl (by kernel_rfl) (by kernel_rfl) (by kernel_rfl) (fun _ _ _ h => h) ?y148 hS ?_
                case y148 => first | (refine Or.inr ⟨by rfl, ?_⟩; with_reducible rfl) | (refine Or.inl ⟨by rfl, ?_⟩; intro wS hSw; have q0 := cell_later hSw x0; have q1 := cell_later hSw x1; have q2 := cell_later hSw y0; have q3 := cell_later hSw y1; have q4 := cell_later hSw j0; have q5 := cell_later hSw j1; have q6 := cell_later hSw m0; have q7 := cell_later hSw m1; go_simp; try with_reducible rfl)
                simp only [Act.put, List.setIfInBounds_toArray, List.set_cons_zero, List.set_cons_succ]
                refine wpAnyH_take (i := 53) (oi := ⟨_, _, _, _, _, _⟩) (v := ?v149) rfl (by kernel_rfl) (by kernel_rfl) (by kernel_rfl) (fun _ _ _ h => h) ?y149 hS ?_
                case y149 => first | (refine Or.inr ⟨by rfl, ?_⟩; with_reducible rfl) | (refine Or.inl ⟨by rfl, ?_⟩; intro wS hSw; have q0 := cell_later hSw x0; have q1 := cell_later hSw x1; have q2 := cell_later hSw y0; have q3 := cell_later hSw y1; have q4 := cell_later hSw j0; have q5 := cell_later hSw j1; have q6 := cell_later hSw m0; have q7 := cell_later hSw m1; go_simp; try with_reducible rfl)
                simp only [Act.put, List.setIfInBounds_toArray, List.set_cons_zero, List.set_cons_succ]
                refine wpAnyH_take (i := 54) (oi := ⟨_, _, _, _, _, _⟩) (v := ?v150) rfl (by kernel_rfl) (by kernel_rfl) (by kernel_rfl) (fun _ _ _ h => h) ?y150 hS ?_
                case y150 => first | (refine Or.inr ⟨by rfl, ?_⟩; with_reducible rfl) | (refine Or.inl ⟨by rfl, ?_⟩; intro wS hSw; have q0 := cell_later hSw x0; have q1 := cell_later hSw x1; have q2 := cell_later hSw y0; have q3 := cell_later hSw y1; have q4 := cell_later hSw j0; have q5 := cell_later hSw j1; have q6 := cell_later hSw m0; have q7 := cell_later hSw m1; go_simp; try with_reducible rfl)
                simp only [Act.put, List.setIfInBounds_toArray, List.set_cons_zero, List.set_cons_succ]
                refine wpAnyH_take (i := 55) (oi := ⟨_, _, _, _, _, _⟩) (v := ?v151) rfl (by kernel_rfl) (by kernel_rfl) (by kernel_rfl) (fun _ _ _ h => h) ?y151 hS ?_
                case y151 => first | (refine Or.inr ⟨by rfl, ?_⟩; with_reducible rfl) | (refine Or.inl ⟨by rfl, ?_⟩; intro wS hSw; have q0 := cell_later hSw x0; have q1 := cell_later hSw x1; have q2 := cell_later hSw y0; have q3 := cell_later hSw y1; have q4 := cell_later hSw j0; have q5 := cell_later hSw j1; have q6 := cell_later hSw m0; have q7 := cell_later hSw m1; go_simp; try with_reducible rfl)
                simp only [Act.put, List.setIfInBounds_toArray, List.set_cons_zero, List.set_cons_succ]
                refine wpAnyH_take (i := 56) (oi := ⟨_, _, _, _, _, _⟩) (v := ?v152) rfl (by kernel_rfl) (by kernel_rfl) (by kernel_rfl) (fun _ _ _ h => h) ?y152 hS ?_
                case y152 => first | (refine Or.inr ⟨by rfl, ?_⟩; with_reducible rfl) | (refine Or.inl ⟨by rfl, ?_⟩; intro wS hSw; have q0 := cell_later hSw x0; have q1 := cell_later hSw x1; have q2 := cell_later hSw y0; have q3 := cell_later hSw y1; have q4 := cell_later hSw j0; have q5 := cell_later hSw j1; have q6 := cell_later hSw m0; have q7 := cell_later hSw m1; go_simp; try with_reducible rfl)
                simp only [Act.put, List.setIfInBounds_toArray, List.set_cons_zero, List.set_cons_succ]
                refine wpAnyH_take (i := 57) (oi := ⟨_, _, _, _, _, _⟩) (v := ?v153) rfl (by kernel_rfl) (by kernel_rfl) (by kernel_rfl) (fun _ _ _ h => h) ?y153 hS ?_
                case y153 => first | (refine Or.inr ⟨by rfl, ?_⟩; with_reducible rfl) | (refine Or.inl ⟨by rfl, ?_⟩; intro wS hSw; have q0 := cell_later hSw x0; have q1 := cell_later hSw x1; have q2 := cell_later hSw y0; have q3 := cell_later hSw y1; have q4 := cell_later hSw j0; have q5 := cell_later hSw j1; have q6 := cell_later hSw m0; have q7 := cell_later hSw m1; go_simp; try with_reducible rfl)
                simp only [Act.put, List.setIfInBounds_toArray, List.set_cons_zero, List.set_cons_succ]
                refine wpAnyH_done (by kernel_rfl) ?_ _
                have hs := HS.out.step hS
                clear hS j0 j1 m0 m1
                clear x0 x1 y0 y1 z0 z1 HS
                have HS := Lib.hid hs
                obtain ⟨x0, x1, y0, y1, z0, z1⟩ := hs.boxes
                clear hs
                go_wp2
                go_meet
                exact HS.out
            · have HJ := Lib.hid (fun (u : World) (v : Value) (h : SgsAt u v [⟨a, b⟩, ⟨c, d⟩]) => sJoin_any v [⟨a, b⟩, ⟨c, d⟩] u h (by simp))
              have HM := Lib.hid (fun (u : World) (_ : Sb w X a b c d e f u) => sMeet_any a b c d u)
              rw [h3] at HJ
              rw [h7, h6] at HM
              simp only [sgv] at HJ HM
              have E1 := Lib.hid (fun u => sIn_any a b jf jt u)
              rw [siB_eq] at E1
              rw [h4] at E1
              have E2 := Lib.hid (fun u => sIn_any c d jf jt u)
              rw [siB_eq] at E2
              rw [h5] at E2
              have E3 := Lib.hid (fun u => sIn_any mf mt a b u)
              rw [siB_eq] at E3
              rw [h8] at E3
              have E4 := Lib.hid (fun u => sIn_any mf mt c d u)
              rw [siB_eq] at E4
              rw [h9] at E4
              have E5 := Lib.hid (fun u => sLess_any a b c d u)
              have E6 := Lib.hid (fun u => sLess_any c d a b u)
              rw [h2] at E6
              have E7 := Lib.hid (fun u => sIn_any a b c d u)
              rw [siB_eq] at E7
              rw [h1] at E7
              generalize lessS ⟨a, b⟩ ⟨c, d⟩ = lq at E5 E6
              clear hne h1 h2 h3 h4 h5 h6 h7 h8 h9 H10
              as_aux_lemma =>
                go_wp2_with fail
                obtain ⟨hb1, hg1⟩ := one_new wc (.cells #[.int .i64 a, .int .i64 b, .int .i64 c, .int .i64 d] 23 (0, 0))
                refine (HJ.out _ _ (new_row (l := [(⟨a, b⟩ : Sg), ⟨c, d⟩]) sgc_len hg1 (by simp) rfl)).mono ?_
                rintro e1 uu ⟨rfl, hb⟩
                have hs := HS.out.step (hb1.trans (hb.mono hb1.size))
                clear hb1 hg1 hb
                clear x0 x1 y0 y1 z0 z1 HS
                have HS := Lib.hid hs
                obtain ⟨x0, x1, y0, y1, z0, z1⟩ := hs.boxes
                clear hs
                go_upto_region 9 with (fail)
                obtain ⟨hb1, hg1⟩ := one_new uu (.cells #[.int .i64 jf, .int .i64 jt] 23 (0, 0))
                refine gen_world (S := fun v => Sb w X a b c d e f v ∧ v.heap[uu.heap.size]? = some (.cells #[.int .i64 jf, .int .i64 jt] 23 (0, 0))) ⟨HS.out.step hb1, hg1⟩ (fun u2 hv => ?_)
                obtain ⟨hs, hj⟩ := hv
                generalize uu.heap.size = J at hj ⊢
                have HJb := Lib.hid hj
                clear hj hb1 hg1
                clear x0 x1 y0 y1 z0 z1 HS
                have HS := Lib.hid hs
                obtain ⟨x0, x1, y0, y1, z0, z1⟩ := hs.boxes
                clear hs
                go_wp2_with fail
                refine (HM.out _ HS.out).mono ?_
                rintro e1 u3 ⟨rfl, hb⟩
                have hj := (hb.block _ (lt_of_block HJb.out)).trans HJb.out
                have hs := HS.out.step hb
                clear hb HJb
                have HJb := Lib.hid hj
                clear hj
                clear x0 x1 y0 y1 z0 z1 HS
                have HS := Lib.hid hs
                obtain ⟨x0, x1, y0, y1, z0, z1⟩ := hs.boxes
                clear hs
                go_upto_region 10 with (fail)
                obtain ⟨hb1, hg1⟩ := one_new u3 (.cells #[.int .i64 mf, .int .i64 mt] 23 (0, 0))
                refine gen_world (S := fun v => Sb w X a b c d e f v ∧ v.heap[J]? = some (.cells #[.int .i64 jf, .int .i64 jt] 23 (0, 0)) ∧ v.heap[u3.heap.size]? = some (.cells #[.int .i64 mf, .int .i64 mt] 23 (0, 0))) ⟨HS.out.step hb1, (hb1.block _ (lt_of_block HJb.out)).trans HJb.out, hg1⟩ (fun wr hv => ?_)
                obtain ⟨hs, hj, hm⟩ := hv
                generalize u3.heap.size = M at hm ⊢
                obtain ⟨j0, j1⟩ := two_box hj
                obtain ⟨m0, m1⟩ := two_box hm
                clear hj hm hb1 hg1 HJb HJ HM
                clear x0 x1 y0 y1 z0 z1 HS
                have HS := Lib.hid hs
                obtain ⟨x0, x1, y0, y1, z0, z1⟩ := hs.boxes
                clear hs
                have L1 := Lib.hid (lift_below (w := wr) E1.out)
                have L2 := Lib.hid (lift_below (w := wr) E2.out)
                have L3 := Lib.hid (lift_below (w := wr) E3.out)
                have L4 := Lib.hid (lift_below (w := wr) E4.out)
                have L5 := Lib.hid (lift_below (w := wr) E5.out)
                have L6 := Lib.hid (lift_below (w := wr) E6.out)
                have L7 := Lib.hid (lift_below (w := wr) E7.out)
                refine wp_region_held_drew (S := fun u => Below wr.heap.size wr u) (by kernel_rfl) ((Below.refl wr.heap.size wr).drew) (fun hS => ?_)
                refine wpAnyH_take (i := 0) (oi := ⟨_, _, _, _, _, _⟩) (v := ?v154) rfl (by kernel_rfl) (by kernel_rfl) (by kernel_rfl) (fun _ _ _ h => h) ?y154 hS ?_
                case y154 => first | (refine Or.inr ⟨by rfl, ?_⟩; with_reducible rfl) | (refine Or.inl ⟨by rfl, ?_⟩; intro wS hSw; have q0 := cell_later hSw x0; have q1 := cell_later hSw x1; have q2 := cell_later hSw y0; have q3 := cell_later hSw y1; have q4 := cell_later hSw j0; have q5 := cell_later hSw j1; have q6 := cell_later hSw m0; have q7 := cell_later hSw m1; go_simp; try with_reducible rfl)
                simp only [Act.put, List.setIfInBounds_toArray, List.set_cons_zero, List.set_cons_succ]
                refine wpAnyH_take (i := 1) (oi := ⟨_, _, _, _, _, _⟩) (v := ?v155) rfl (by kernel_rfl) (by kernel_rfl) (by kernel_rfl) (fun _ _ _ h => h) ?y155 hS ?_
                case y155 => first | (refine Or.inr ⟨by rfl, ?_⟩; with_reducible rfl) | (refine Or.inl ⟨by rfl, ?_⟩; intro wS hSw; have q0 := cell_later hSw x0; have q1 := cell_later hSw x1; have q2 := cell_later hSw y0; have q3 := cell_later hSw y1; have q4 := cell_later hSw j0; have q5 := cell_later hSw j1; have q6 := cell_later hSw m0; have q7 := cell_later hSw m1; go_simp; try with_reducible rfl)
                simp only [Act.put, List.setIfInBounds_toArray, List.set_cons_zero, List.set_cons_succ]
                refine wpAnyH_ready (rs := [2]) (by kernel_rfl) (by simp) ?_
                refine AllReadyH.cons (o := ⟨_, _, _, _, _, _⟩) rfl (fun K hK => ?_) AllReadyH.nil
                go_simp
                refine (L1.out _ hS).mono ?_
                rintro e wx ⟨rfl, hS⟩
                go_wp2_with fail
                refine hK.out _ _ hS (fun _ => ?_)
                clear hK K
                try simp only [Act.put, List.setIfInBounds_toArray, List.set_cons_zero, List.set_cons_succ]
                refine wpAnyH_take (i := 3) (oi := ⟨_, _, _, _, _, _⟩) (v := ?v156) rfl (by kernel_rfl) (by kernel_rfl) (by kernel_rfl) (fun _ _ _ h => h) ?y156 hS ?_
                case y156 => first | (refine Or.inr ⟨by rfl, ?_⟩; with_reducible rfl) | (refine Or.inl ⟨by rfl, ?_⟩; intro wS hSw; have q0 := cell_later hSw x0; have q1 := cell_later hSw x1; have q2 := cell_later hSw y0; have q3 := cell_later hSw y1; have q4 := cell_later hSw j0; have q5 := cell_later hSw j1; have q6 := cell_later hSw m0; have q7 := cell_later hSw m1; go_simp; try with_reducible rfl)
                simp only [Act.put, List.setIfInBounds_toArray, List.set_cons_zero, List.set_cons_succ]
                refine wpAnyH_take (i := 4) (oi := ⟨_, _, _, _, _, _⟩) (v := ?v157) rfl (by kernel_rfl) (by kernel_rfl) (by kernel_rfl) (fun _ _ _ h => h) ?y157 hS ?_
                case y157 => first | (refine Or.inr ⟨by rfl, ?_⟩; with_reducible rfl) | (refine Or.inl ⟨by rfl, ?_⟩; intro wS hSw; have q0 := cell_later hSw x0; have q1 := cell_later hSw x1; have q2 := cell_later hSw y0; have q3 := cell_later hSw y1; have q4 := cell_later hSw j0; have q5 := cell_later hSw j1; have q6 := cell_later hSw m0; have q7 := cell_later hSw m1; go_simp; try with_reducible rfl)
                simp only [Act.put, List.setIfInBounds_toArray, List.set_cons_zero, List.set_cons_succ]
                refine wpAnyH_take (i := 5) (oi := ⟨_, _, _, _, _, _⟩) (v := ?v158) rfl (by kernel_rfl) (by kernel_rfl) (by kernel_rfl) (fun _ _ _ h => h) ?y158 hS ?_
                case y158 => first | (refine Or.inr ⟨by rfl, ?_⟩; with_reducible rfl) | (refine Or.inl ⟨by rfl, ?_⟩; intro wS hSw; have q0 := cell_later hSw x0; have q1 := cell_later hSw x1; have q2 := cell_later hSw y0; have q3 := cell_later hSw y1; have q4 := cell_later hSw j0; have q5 := cell_later hSw j1; have q6 := cell_later hSw m0; have q7 := cell_later hSw m1; go_simp; try with_reducible rfl)
                simp only [Act.put, List.setIfInBounds_toArray, List.set_cons_zero, List.set_cons_succ]
                refine wpAnyH_take (i := 6) (oi := ⟨_, _, _, _, _, _⟩) (v := ?v159) rfl (by kernel_rfl) (by kernel_rfl) (by kernel_rfl) (fun _ _ _ h => h) ?y159 hS ?_
                case y159 => first | (refine Or.inr ⟨by rfl, ?_⟩; with_reducible rfl) | (refine Or.inl ⟨by rfl, ?_⟩; intro wS hSw; have q0 := cell_later hSw x0; have q1 := cell_later hSw x1; have q2 := cell_later hSw y0; have q3 := cell_later hSw y1; have q4 := cell_later hSw j0; have q5 := cell_later hSw j1; have q6 := cell_later hSw m0; have q7 := cell_later hSw m1; go_simp; try with_reducible rfl)
                simp only [Act.put, List.setIfInBounds_toArray, List.set_cons_zero, List.set_cons_succ]
                refine wpAnyH_ready (rs := [7]) (by kernel_rfl) (by simp) ?_
                refine AllReadyH.cons (o := ⟨_, _, _, _, _, _⟩) rfl (fun K hK => ?_) AllReadyH.nil
                go_simp
                refine (L2.out _ hS).mono ?_
                rintro e wx ⟨rfl, hS⟩
                go_wp2_with fail
                refine hK.out _ _ hS (fun _ => ?_)
                clear hK K
                try simp only [Act.put, List.setIfInBounds_toArray, List.set_cons_zero, List.set_cons_succ]
                refine wpAnyH_take (i := 8) (oi := ⟨_, _, _, _, _, _⟩) (v := ?v160) rfl (by kernel_rfl) (by kernel_rfl) (by kernel_rfl) (fun _ _ _ h => h) ?y160 hS ?_
                case y160 => first | (refine Or.inr ⟨by rfl, ?_⟩; with_reducible rfl) | (refine Or.inl ⟨by rfl, ?_⟩; intro wS hSw; have q0 := cell_later hSw x0; have q1 := cell_later hSw x1; have q2 := cell_later hSw y0; have q3 := cell_later hSw y1; have q4 := cell_later hSw j0; have q5 := cell_later hSw j1; have q6 := cell_later hSw m0; have q7 := cell_later hSw m1; go_simp; try with_reducible rfl)
                simp only [Act.put, List.setIfInBounds_toArray, List.set_cons_zero, List.set_cons_succ]
                refine wpAnyH_take (i := 9) (oi := ⟨_, _, _, _, _, _⟩) (v := ?v161) rfl (by kernel_rfl) (by kernel_rfl) (by kernel_rfl) (fun _ _ _ h => h) ?y161 hS ?_
                case y161 => first | (refine Or.inr ⟨by rfl, ?_⟩; with_reducible rfl) | (refine Or.inl ⟨by rfl, ?_⟩; intro wS hSw; have q0 := cell_later hSw x0; have q1 := cell_later hSw x1; have q2 := cell_later hSw y0; have q3 := cell_later hSw y1; have q4 := cell_later hSw j0; have q5 := cell_later hSw j1; have q6 := cell_later hSw m0; have q7 := cell_later hSw m1; go_simp; try with_reducible rfl)
                simp only [Act.put, List.setIfInBounds_toArray, List.set_cons_zero, List.set_cons_succ]
                refine wpAnyH_take (i := 10) (oi := ⟨_, _, _, _, _, _⟩) (v := ?v162) rfl (by kernel_rfl) (by kernel_rfl) (by kernel_rfl) (fun _ _ _ h => h) ?y162 hS ?_
                case y162 => first | (refine Or.inr ⟨by rfl, ?_⟩; with_reducible rfl) | (refine Or.inl ⟨by rfl, ?_⟩; intro wS hSw; have q0 := cell_later hSw x0; have q1 := cell_later hSw x1; have q2 := cell_later hSw y0; have q3 := cell_later hSw y1; have q4 := cell_later hSw j0; have q5 := cell_later hSw j1; have q6 := cell_later hSw m0; have q7 := cell_later hSw m1; go_simp; try with_reducible rfl)
                simp only [Act.put, List.setIfInBounds_toArray, List.set_cons_zero, List.set_cons_succ]
                refine wpAnyH_take (i := 11) (oi := ⟨_, _, _, _, _, _⟩) (v := ?v163) rfl (by kernel_rfl) (by kernel_rfl) (by kernel_rfl) (fun _ _ _ h => h) ?y163 hS ?_
                case y163 => first | (refine Or.inr ⟨by rfl, ?_⟩; with_reducible rfl) | (refine Or.inl ⟨by rfl, ?_⟩; intro wS hSw; have q0 := cell_later hSw x0; have q1 := cell_later hSw x1; have q2 := cell_later hSw y0; have q3 := cell_later hSw y1; have q4 := cell_later hSw j0; have q5 := cell_later hSw j1; have q6 := cell_later hSw m0; have q7 := cell_later hSw m1; go_simp; try with_reducible rfl)
                simp only [Act.put, List.setIfInBounds_toArray, List.set_cons_zero, List.set_cons_succ]
                refine wpAnyH_take (i := 12) (oi := ⟨_, _, _, _, _, _⟩) (v := ?v164) rfl (by kernel_rfl) (by kernel_rfl) (by kernel_rfl) (fun _ _ _ h => h) ?y164 hS ?_
                case y164 => first | (refine Or.inr ⟨by rfl, ?_⟩; with_reducible rfl) | (refine Or.inl ⟨by rfl, ?_⟩; intro wS hSw; have q0 := cell_later hSw x0; have q1 := cell_later hSw x1; have q2 := cell_later hSw y0; have q3 := cell_later hSw y1; have q4 := cell_later hSw j0; have q5 := cell_later hSw j1; have q6 := cell_later hSw m0; have q7 := cell_later hSw m1; go_simp; try with_reducible rfl)
                simp only [Act.put, List.setIfInBounds_toArray, List.set_cons_zero, List.set_cons_succ]
                refine wpAnyH_take (i := 13) (oi := ⟨_, _, _, _, _, _⟩) (v := ?v165) rfl (by kernel_rfl) (by kernel_rfl) (by kernel_rfl) (fun _ _ _ h => h) ?y165 hS ?_
                case y165 => first | (refine Or.inr ⟨by rfl, ?_⟩; with_reducible rfl) | (refine Or.inl ⟨by rfl, ?_⟩; intro wS hSw; have q0 := cell_later hSw x0; have q1 := cell_later hSw x1; have q2 := cell_later hSw y0; have q3 := cell_later hSw y1; have q4 := cell_later hSw j0; have q5 := cell_later hSw j1; have q6 := cell_later hSw m0; have q7 := cell_later hSw m1; go_simp; try with_reducible rfl)
                simp only [Act.put, List.setIfInBounds_toArray, List.set_cons_zero, List.set_cons_succ]
                refine wpAnyH_take (i := 14) (oi := ⟨_, _, _, _, _, _⟩) (v := ?v166) rfl (by kernel_rfl) (by kernel_rfl) (by kernel_rfl) (fun _ _ _ h => h) ?y166 hS ?_
                case y166 => first | (refine Or.inr ⟨by rfl, ?_⟩; with_reducible rfl) | (refine Or.inl ⟨by rfl, ?_⟩; intro wS hSw; have q0 := cell_later hSw x0; have q1 := cell_later hSw x1; have q2 := cell_later hSw y0; have q3 := cell_later hSw y1; have q4 := cell_later hSw j0; have q5 := cell_later hSw j1; have q6 := cell_later hSw m0; have q7 := cell_later hSw m1; go_simp; try with_reducible rfl)
                simp only [Act.put, List.setIfInBounds_toArray, List.set_cons_zero, List.set_cons_succ]
                refine wpAnyH_ready (rs := [15]) (by kernel_rfl) (by simp) ?_
                refine AllReadyH.cons (o := ⟨_, _, _, _, _, _⟩) rfl (fun K hK => ?_) AllReadyH.nil
                go_simp
                refine (L3.out _ hS).mono ?_
                rintro e wx ⟨rfl, hS⟩
                go_wp2_with fail
                refine hK.out _ _ hS (fun _ => ?_)
                clear hK K
                try simp only [Act.put, List.setIfInBounds_toArray, List.set_cons_zero, List.set_cons_succ]
                refine wpAnyH_take (i := 16) (oi := ⟨_, _, _, _, _, _⟩) (v := ?v167) rfl (by kernel_rfl) (by kernel_rfl) (by kernel_rfl) (fun _ _ _ h => h) ?y167 hS ?_
                case y167 => first | (refine Or.inr ⟨by rfl, ?_⟩; with_reducible rfl) | (refine Or.inl ⟨by rfl, ?_⟩; intro wS hSw; have q0 := cell_later hSw x0; have q1 := cell_later hSw x1; have q2 := cell_later hSw y0; have q3 := cell_later hSw y1; have q4 := cell_later hSw j0; have q5 := cell_later hSw j1; have q6 := cell_later hSw m0; have q7 := cell_later hSw m1; go_simp; try with_reducible rfl)
                simp only [Act.put, List.setIfInBounds_toArray, List.set_cons_zero, List.set_cons_succ]
                refine wpAnyH_take (i := 17) (oi := ⟨_, _, _, _, _, _⟩) (v := ?v168) rfl (by kernel_rfl) (by kernel_rfl) (by kernel_rfl) (fun _ _ _ h => h) ?y168 hS ?_
                case y168 => first | (refine Or.inr ⟨by rfl, ?_⟩; with_reducible rfl) | (refine Or.inl ⟨by rfl, ?_⟩; intro wS hSw; have q0 := cell_later hSw x0; have q1 := cell_later hSw x1; have q2 := cell_later hSw y0; have q3 := cell_later hSw y1; have q4 := cell_later hSw j0; have q5 := cell_later hSw j1; have q6 := cell_later hSw m0; have q7 := cell_later hSw m1; go_simp; try with_reducible rfl)
                simp only [Act.put, List.setIfInBounds_toArray, List.set_cons_zero, List.set_cons_succ]
                refine wpAnyH_take (i := 18) (oi := ⟨_, _, _, _, _, _⟩) (v := ?v169) rfl (by kernel_rfl) (by kernel_rfl) (by kernel_rfl) (fun _ _ _ h => h) ?y169 hS ?_
                case y169 => first | (refine Or.inr ⟨by rfl, ?_⟩; with_reducible rfl) | (refine Or.inl ⟨by rfl, ?_⟩; intro wS hSw; have q0 := cell_later hSw x0; have q1 := cell_later hSw x1; have q2 := cell_later hSw y0; have q3 := cell_later hSw y1; have q4 := cell_later hSw j0; have q5 := cell_later hSw j1; have q6 := cell_later hSw m0; have q7 := cell_later hSw m1; go_simp; try with_reducible rfl)
                simp only [Act.put, List.setIfInBounds_toArray, List.set_cons_zero, List.set_cons_succ]
                refine wpAnyH_take (i := 19) (oi := ⟨_, _, _, _, _, _⟩) (v := ?v170) rfl (by kernel_rfl) (by kernel_rfl) (by kernel_rfl) (fun _ _ _ h => h) ?y170 hS ?_
                case y170 => first | (refine Or.inr ⟨by rfl, ?_⟩; with_reducible rfl) | (refine Or.inl ⟨by rfl, ?_⟩; intro wS hSw; have q0 := cell_later hSw x0; have q1 := cell_later hSw x1; have q2 := cell_later hSw y0; have q3 := cell_later hSw y1; have q4 := cell_later hSw j0; have q5 := cell_later hSw j1; have q6 := cell_later hSw m0; have q7 := cell_later hSw m1; go_simp; try with_reducible rfl)
                simp only [Act.put, List.setIfInBounds_toArray, List.set_cons_zero, List.set_cons_succ]
                refine wpAnyH_ready (rs := [20]) (by kernel_rfl) (by simp) ?_
                refine AllReadyH.cons (o := ⟨_, _, _, _, _, _⟩) rfl (fun K hK => ?_) AllReadyH.nil
                go_simp
                refine (L4.out _ hS).mono ?_
                rintro e wx ⟨rfl, hS⟩
                go_wp2_with fail
                refine hK.out _ _ hS (fun _ => ?_)
                clear hK K
                try simp only [Act.put, List.setIfInBounds_toArray, List.set_cons_zero, List.set_cons_succ]
                refine wpAnyH_take (i := 21) (oi := ⟨_, _, _, _, _, _⟩) (v := ?v171) rfl (by kernel_rfl) (by kernel_rfl) (by kernel_rfl) (fun _ _ _ h => h) ?y171 hS ?_
                case y171 => first | (refine Or.inr ⟨by rfl, ?_⟩; with_reducible rfl) | (refine Or.inl ⟨by rfl, ?_⟩; intro wS hSw; have q0 := cell_later hSw x0; have q1 := cell_later hSw x1; have q2 := cell_later hSw y0; have q3 := cell_later hSw y1; have q4 := cell_later hSw j0; have q5 := cell_later hSw j1; have q6 := cell_later hSw m0; have q7 := cell_later hSw m1; go_simp; try with_reducible rfl)
                simp only [Act.put, List.setIfInBounds_toArray, List.set_cons_zero, List.set_cons_succ]
                refine wpAnyH_take (i := 22) (oi := ⟨_, _, _, _, _, _⟩) (v := ?v172) rfl (by kernel_rfl) (by kernel_rfl) (by kernel_rfl) (fun _ _ _ h => h) ?y172 hS ?_
                case y172 => first | (refine Or.inr ⟨by rfl, ?_⟩; with_reducible rfl) | (refine Or.inl ⟨by rfl, ?_⟩; intro wS hSw; have q0 := cell_later hSw x0; have q1 := cell_later hSw x1; have q2 := cell_later hSw y0; have q3 := cell_later hSw y1; have q4 := cell_later hSw j0; have q5 := cell_later hSw j1; have q6 := cell_later hSw m0; have q7 := cell_later hSw m1; go_simp; try with_reducible rfl)
                simp only [Act.put, List.setIfInBounds_toArray, List.set_cons_zero, List.set_cons_succ]
                refine wpAnyH_take (i := 23) (oi := ⟨_, _, _, _, _, _⟩) (v := ?v173) rfl (by kernel_rfl) (by kernel_rfl) (by kernel_rfl) (fun _ _ _ h => h) ?y173 hS ?_
                case y173 => first | (refine Or.inr ⟨by rfl, ?_⟩; with_reducible rfl) | (refine Or.inl ⟨by rfl, ?_⟩; intro wS hSw; have q0 := cell_later hSw x0; have q1 := cell_later hSw x1; have q2 := cell_later hSw y0; have q3 := cell_later hSw y1; have q4 := cell_later hSw j0; have q5 := cell_later hSw j1; have q6 := cell_later hSw m0; have q7 := cell_later hSw m1; go_simp; try with_reducible rfl)
                simp only [Act.put, List.setIfInBounds_toArray, List.set_cons_zero, List.set_cons_succ]
                refine wpAnyH_take (i := 24) (oi := ⟨_, _, _, _, _, _⟩) (v := ?v174) rfl (by kernel_rfl) (by kernel_rfl) (by kernel_rfl) (fun _ _ _ h => h) ?y174 hS ?_
                case y174 => first | (refine Or.inr ⟨by rfl, ?_⟩; with_reducible rfl) | (refine Or.inl ⟨by rfl, ?_⟩; intro wS hSw; have q0 := cell_later hSw x0; have q1 := cell_later hSw x1; have q2 := cell_later hSw y0; have q3 := cell_later hSw y1; have q4 := cell_later hSw j0; have q5 := cell_later hSw j1; have q6 := cell_later hSw m0; have q7 := cell_later hSw m1; go_simp; try with_reducible rfl)
                simp only [Act.put, List.setIfInBounds_toArray, List.set_cons_zero, List.set_cons_succ]
                refine wpAnyH_take (i := 25) (oi := ⟨_, _, _, _, _, _⟩) (v := ?v175) rfl (by kernel_rfl) (by kernel_rfl) (by kernel_rfl) (fun _ _ _ h => h) ?y175 hS ?_
                case y175 => first | (refine Or.inr ⟨by rfl, ?_⟩; with_reducible rfl) | (refine Or.inl ⟨by rfl, ?_⟩; intro wS hSw; have q0 := cell_later hSw x0; have q1 := cell_later hSw x1; have q2 := cell_later hSw y0; have q3 := cell_later hSw y1; have q4 := cell_later hSw j0; have q5 := cell_later hSw j1; have q6 := cell_later hSw m0; have q7 := cell_later hSw m1; go_simp; try with_reducible rfl)
                simp only [Act.put, List.setIfInBounds_toArray, List.set_cons_zero, List.set_cons_succ]
                refine wpAnyH_take (i := 26) (oi := ⟨_, _, _, _, _, _⟩) (v := ?v176) rfl (by kernel_rfl) (by kernel_rfl) (by kernel_rfl) (fun _ _ _ h => h) ?y176 hS ?_
                case y176 => first | (refine Or.inr ⟨by rfl, ?_⟩; with_reducible rfl) | (refine Or.inl ⟨by rfl, ?_⟩; intro wS hSw; have q0 := cell_later hSw x0; have q1 := cell_later hSw x1; have q2 := cell_later hSw y0; have q3 := cell_later hSw y1; have q4 := cell_later hSw j0; have q5 := cell_later hSw j1; have q6 := cell_later hSw m0; have q7 := cell_later hSw m1; go_simp; try with_reducible rfl)
                simp only [Act.put, List.setIfInBounds_toArray, List.set_cons_zero, List.set_cons_succ]
                refine wpAnyH_take (i := 27) (oi := ⟨_, _, _, _, _, _⟩) (v := ?v177) rfl (by kernel_rfl) (by kernel_rfl) (by kernel_rfl) (fun _ _ _ h => h) ?y177 hS ?_
                case y177 => first | (refine Or.inr ⟨by rfl, ?_⟩; with_reducible rfl) | (refine Or.inl ⟨by rfl, ?_⟩; intro wS hSw; have q0 := cell_later hSw x0; have q1 := cell_later hSw x1; have q2 := cell_later hSw y0; have q3 := cell_later hSw y1; have q4 := cell_later hSw j0; have q5 := cell_later hSw j1; have q6 := cell_later hSw m0; have q7 := cell_later hSw m1; go_simp; try with_reducible rfl)
                simp only [Act.put, List.setIfInBounds_toArray, List.set_cons_zero, List.set_cons_succ]
                refine wpAnyH_take (i := 28) (oi := ⟨_, _, _, _, _, _⟩) (v := ?v178) rfl (by kernel_rfl) (by kernel_rfl) (by kernel_rfl) (fun _ _ _ h => h) ?y178 hS ?_
                case y178 => first | (refine Or.inr ⟨by rfl, ?_⟩; with_reducible rfl) | (refine Or.inl ⟨by rfl, ?_⟩; intro wS hSw; have q0 := cell_later hSw x0; have q1 := cell_later hSw x1; have q2 := cell_later hSw y0; have q3 := cell_later hSw y1; have q4 := cell_later hSw j0; have q5 := cell_later hSw j1; have q6 := cell_later hSw m0; have q7 := cell_later hSw m1; go_simp; try with_reducible rfl)
                simp only [Act.put, List.setIfInBounds_toArray, List.set_cons_zero, List.set_cons_succ]
                refine wpAnyH_take (i := 29) (oi := ⟨_, _, _, _, _, _⟩) (v := ?v179) rfl (by kernel_rfl) (by kernel_rfl) (by kernel_rfl) (fun _ _ _ h => h) ?y179 hS ?_
                case y179 => first | (refine Or.inr ⟨by rfl, ?_⟩; with_reducible rfl) | (refine Or.inl ⟨by rfl, ?_⟩; intro wS hSw; have q0 := cell_later hSw x0; have q1 := cell_later hSw x1; have q2 := cell_later hSw y0; have q3 := cell_later hSw y1; have q4 := cell_later hSw j0; have q5 := cell_later hSw j1; have q6 := cell_later hSw m0; have q7 := cell_later hSw m1; go_simp; try with_reducible rfl)
                simp only [Act.put, List.setIfInBounds_toArray, List.set_cons_zero, List.set_cons_succ]
                refine wpAnyH_take (i := 30) (oi := ⟨_, _, _, _, _, _⟩) (v := ?v180) rfl (by kernel_rfl) (by kernel_rfl) (by kernel_rfl) (fun _ _ _ h => h) ?y180 hS ?_
                case y180 => first | (refine Or.inr ⟨by rfl, ?_⟩; with_reducible rfl) | (refine Or.inl ⟨by rfl, ?_⟩; intro wS hSw; have q0 := cell_later hSw x0; have q1 := cell_later hSw x1; have q2 := cell_later hSw y0; have q3 := cell_later hSw y1; have q4 := cell_later hSw j0; have q5 := cell_later hSw j1; have q6 := cell_later hSw m0; have q7 := cell_later hSw m1; go_simp; try with_reducible rfl)
                simp only [Act.put, List.setIfInBounds_toArray, List.set_cons_zero, List.set_cons_succ]
                refine wpAnyH_take (i := 31) (oi := ⟨_, _, _, _, _, _⟩) (v := ?v181) rfl (by kernel_rfl) (by kernel_rfl) (by kernel_rfl) (fun _ _ _ h => h) ?y181 hS ?_
                case y181 => first | (refine Or.inr ⟨by rfl, ?_⟩; with_reducible rfl) | (refine Or.inl ⟨by rfl, ?_⟩; intro wS hSw; have q0 := cell_later hSw x0; have q1 := cell_later hSw x1; have q2 := cell_later hSw y0; have q3 := cell_later hSw y1; have q4 := cell_later hSw j0; have q5 := cell_later hSw j1; have q6 := cell_later hSw m0; have q7 := cell_later hSw m1; go_simp; try with_reducible rfl)
                simp only [Act.put, List.setIfInBounds_toArray, List.set_cons_zero, List.set_cons_succ]
                refine wpAnyH_take (i := 33) (oi := ⟨_, _, _, _, _, _⟩) (v := ?v182) rfl (by kernel_rfl) (by kernel_rfl) (by kernel_rfl) (fun _ _ _ h => h) ?y182 hS ?_
                case y182 => first | (refine Or.inr ⟨by rfl, ?_⟩; with_reducible rfl) | (refine Or.inl ⟨by rfl, ?_⟩; intro wS hSw; have q0 := cell_later hSw x0; have q1 := cell_later hSw x1; have q2 := cell_later hSw y0; have q3 := cell_later hSw y1; have q4 := cell_later hSw j0; have q5 := cell_later hSw j1; have q6 := cell_later hSw m0; have q7 := cell_later hSw m1; go_simp; try with_reducible rfl)
                simp only [Act.put, List.setIfInBounds_toArray, List.set_cons_zero, List.set_cons_succ]
                refine wpAnyH_take (i := 34) (oi := ⟨_, _, _, _, _, _⟩) (v := ?v183) rfl (by kernel_rfl) (by kernel_rfl) (by kernel_rfl) (fun _ _ _ h => h) ?y183 hS ?_
                case y183 => first | (refine Or.inr ⟨by rfl, ?_⟩; with_reducible rfl) | (refine Or.inl ⟨by rfl, ?_⟩; intro wS hSw; have q0 := cell_later hSw x0; have q1 := cell_later hSw x1; have q2 := cell_later hSw y0; have q3 := cell_later hSw y1; have q4 := cell_later hSw j0; have q5 := cell_later hSw j1; have q6 := cell_later hSw m0; have q7 := cell_later hSw m1; go_simp; try with_reducible rfl)
                simp only [Act.put, List.setIfInBounds_toArray, List.set_cons_zero, List.set_cons_succ]
                refine wpAnyH_ready (rs := [32]) (by kernel_rfl) (by simp) ?_
                refine AllReadyH.cons (o := ⟨_, _, _, _, _, _⟩) rfl (fun K hK => ?_) AllReadyH.nil
                go_simp
                refine (L5.out _ hS).mono ?_
                rintro e wx ⟨rfl, hS⟩
                go_wp2_with fail
                refine hK.out _ _ hS (fun _ => ?_)
                clear hK K
                try simp only [Act.put, List.setIfInBounds_toArray, List.set_cons_zero, List.set_cons_succ]
                refine wpAnyH_ready (rs := [35]) (by kernel_rfl) (by simp) ?_
                refine AllReadyH.cons (o := ⟨_, _, _, _, _, _⟩) rfl (fun K hK => ?_) AllReadyH.nil
                go_simp
                refine (L6.out _ hS).mono ?_
                rintro e wx ⟨rfl, hS⟩
                go_wp2_with fail
                refine hK.out _ _ hS (fun _ => ?_)
                clear hK K
                try simp only [Act.put, List.setIfInBounds_toArray, List.set_cons_zero, List.set_cons_succ]
                refine wpAnyH_take (i := 36) (oi := ⟨_, _, _, _, _, _⟩) (v := ?v184) rfl (by kernel_rfl) (by kernel_rfl) (by kernel_rfl) (fun _ _ _ h => h) ?y184 hS ?_
                case y184 => first | (refine Or.inr ⟨by rfl, ?_⟩; with_reducible rfl) | (refine Or.inl ⟨by rfl, ?_⟩; intro wS hSw; have q0 := cell_later hSw x0; have q1 := cell_later hSw x1; have q2 := cell_later hSw y0; have q3 := cell_later hSw y1; have q4 := cell_later hSw j0; have q5 := cell_later hSw j1; have q6 := cell_later hSw m0; have q7 := cell_later hSw m1; go_simp; try with_reducible rfl)
                simp only [Act.put, List.setIfInBounds_toArray, List.set_cons_zero, List.set_cons_succ]
                refine wpAnyH_take (i := 37) (oi := ⟨_, _, _, _, _, _⟩) (v := ?v185) rfl (by kernel_rfl) (by kernel_rfl) (by kernel_rfl) (fun _ _ _ h => h) ?y185 hS ?_
                case y185 => first | (refine Or.inr ⟨by rfl, ?_⟩; with_reducible rfl) | (refine Or.inl ⟨by rfl, ?_⟩; intro wS hSw; have q0 := cell_later hSw x0; have q1 := cell_later hSw x1; have q2 := cell_later hSw y0; have q3 := cell_later hSw y1; have q4 := cell_later hSw j0; have q5 := cell_later hSw j1; have q6 := cell_later hSw m0; have q7 := cell_later hSw m1; go_simp; try with_reducible rfl)
                simp only [Act.put, List.setIfInBounds_toArray, List.set_cons_zero, List.set_cons_succ]
                refine wpAnyH_take (i := 38) (oi := ⟨_, _, _, _, _, _⟩) (v := ?v186) rfl (by kernel_rfl) (by kernel_rfl) (by kernel_rfl) (fun _ _ _ h => h) ?y186 hS ?_
                case y186 => first | (refine Or.inr ⟨by rfl, ?_⟩; with_reducible rfl) | (refine Or.inl ⟨by rfl, ?_⟩; intro wS hSw; have q0 := cell_later hSw x0; have q1 := cell_later hSw x1; have q2 := cell_later hSw y0; have q3 := cell_later hSw y1; have q4 := cell_later hSw j0; have q5 := cell_later hSw j1; have q6 := cell_later hSw m0; have q7 := cell_later hSw m1; go_simp; try with_reducible rfl)
                simp only [Act.put, List.setIfInBounds_toArray, List.set_cons_zero, List.set_cons_succ]
                refine wpAnyH_take (i := 39) (oi := ⟨_, _, _, _, _, _⟩) (v := ?v187) rfl (by kernel_rfl) (by kernel_rfl) (by kernel_rfl) (fun _ _ _ h => h) ?y187 hS ?_
                case y187 => first | (refine Or.inr ⟨by rfl, ?_⟩; with_reducible rfl) | (refine Or.inl ⟨by rfl, ?_⟩; intro wS hSw; have q0 := cell_later hSw x0; have q1 := cell_later hSw x1; have q2 := cell_later hSw y0; have q3 := cell_later hSw y1; have q4 := cell_later hSw j0; have q5 := cell_later hSw j1; have q6 := cell_later hSw m0; have q7 := cell_later hSw m1; go_simp; try with_reducible rfl)
                simp only [Act.put, List.setIfInBounds_toArray, List.set_cons_zero, List.set_cons_succ]
                refine wpAnyH_take (i := 40) (oi := ⟨_, _, _, _, _, _⟩) (v := ?v188) rfl (by kernel_rfl) (by kernel_rfl) (by kernel_rfl) (fun _ _ _ h => h) ?y188 hS ?_
                case y188 => first | (refine Or.inr ⟨by rfl, ?_⟩; with_reducible rfl) | (refine Or.inl ⟨by rfl, ?_⟩; intro wS hSw; have q0 := cell_later hSw x0; have q1 := cell_later hSw x1; have q2 := cell_later hSw y0; have q3 := cell_later hSw y1; have q4 := cell_later hSw j0; have q5 := cell_later hSw j1; have q6 := cell_later hSw m0; have q7 := cell_later hSw m1; go_simp; try with_reducible rfl)
                simp only [Act.put, List.setIfInBounds_toArray, List.set_cons_zero, List.set_cons_succ]
                refine wpAnyH_take (i := 41) (oi := ⟨_, _, _, _, _, _⟩) (v := ?v189) rfl (by kernel_rfl) (by kernel_rfl) (by kernel_rfl) (fun _ _ _ h => h) ?y189 hS ?_
                case y189 => first | (refine Or.inr ⟨by rfl, ?_⟩; with_reducible rfl) | (refine Or.inl ⟨by rfl, ?_⟩; intro wS hSw; have q0 := cell_later hSw x0; have q1 := cell_later hSw x1; have q2 := cell_later hSw y0; have q3 := cell_later hSw y1; have q4 := cell_later hSw j0; have q5 := cell_later hSw j1; have q6 := cell_later hSw m0; have q7 := cell_later hSw m1; go_simp; try with_reducible rfl)
                simp only [Act.put, List.setIfInBounds_toArray, List.set_cons_zero, List.set_cons_succ]
                refine wpAnyH_ready (rs := [42]) (by kernel_rfl) (by simp) ?_
                refine AllReadyH.cons (o := ⟨_, _, _, _, _, _⟩) rfl (fun K hK => ?_) AllReadyH.nil
                go_simp
                refine (L7.out _ hS).mono ?_
                rintro e wx ⟨rfl, hS⟩
                go_wp2_with fail
                refine hK.out _ _ hS (fun _ => ?_)
                clear hK K
                try simp only [Act.put, List.setIfInBounds_toArray, List.set_cons_zero, List.set_cons_succ]
                refine wpAnyH_take (i := 43) (oi := ⟨_, _, _, _, _, _⟩) (v := ?v190) rfl (by kernel_rfl) (by kernel_rfl) (by kernel_rfl) (fun _ _ _ h => h) ?y190 hS ?_
                case y190 => first | (refine Or.inr ⟨by rfl, ?_⟩; with_reducible rfl) | (refine Or.inl ⟨by rfl, ?_⟩; intro wS hSw; have q0 := cell_later hSw x0; have q1 := cell_later hSw x1; have q2 := cell_later hSw y0; have q3 := cell_later hSw y1; have q4 := cell_later hSw j0; have q5 := cell_later hSw j1; have q6 := cell_later hSw m0; have q7 := cell_later hSw m1; go_simp; try with_reducible rfl)
                simp only [Act.put, List.setIfInBounds_toArray, List.set_cons_zero, List.set_cons_succ]
                refine wpAnyH_take (i := 44) (oi := ⟨_, _, _, _, _, _⟩) (v := ?v191) rfl (by kernel_rfl) (by kernel_rfl) (by kernel_rfl) (fun _ _ _ h => h) ?y191 hS ?_
                case y191 => first | (refine Or.inr ⟨by rfl, ?_⟩; with_reducible rfl) | (refine Or.inl ⟨by rfl, ?_⟩; intro wS hSw; have q0 := cell_later hSw x0; have q1 := cell_later hSw x1; have q2 := cell_later hSw y0; have q3 := cell_later hSw y1; have q4 := cell_later hSw j0; have q5 := cell_later hSw j1; have q6 := cell_later hSw m0; have q7 := cell_later hSw m1; go_simp; try with_reducible rfl)
                simp only [Act.put, List.setIfInBounds_toArray, List.set_cons_zero, List.set_cons_succ]
                refine wpAnyH_take (i := 45) (oi := ⟨_, _, _, _, _, _⟩) (v := ?v192) rfl (by kernel_rfl) (by kernel_rfl) (by kernel_rfl) (fun _ _ _ h => h) ?y192 hS ?_
                case y192 => first | (refine Or.inr ⟨by rfl, ?_⟩; with_reducible rfl) | (refine Or.inl ⟨by rfl, ?_⟩; intro wS hSw; have q0 := cell_later hSw x0; have q1 := cell_later hSw x1; have q2 := cell_later hSw y0; have q3 := cell_later hSw y1; have q4 := cell_later hSw j0; have q5 := cell_later hSw j1; have q6 := cell_later hSw m0; have q7 := cell_later hSw m1; go_simp; try with_reducible rfl)
                simp only [Act.put, List.setIfInBounds_toArray, List.set_cons_zero, List.set_cons_succ]
                refine wpAnyH_take (i := 46) (oi := ⟨_, _, _, _, _, _⟩) (v := ?v193) rfl (by kernel_rfl) (by kernel_rfl) (by kernel_rfl) (fun _ _ _ h => h) ?y193 hS ?_
                case y193 => first | (refine Or.inr ⟨by rfl, ?_⟩; with_reducible rfl) | (refine Or.inl ⟨by rfl, ?_⟩; intro wS hSw; have q0 := cell_later hSw x0; have q1 := cell_later hSw x1; have q2 := cell_later hSw y0; have q3 := cell_later hSw y1; have q4 := cell_later hSw j0; have q5 := cell_later hSw j1; have q6 := cell_later hSw m0; have q7 := cell_later hSw m1; go_simp; try with_reducible rfl)
                simp only [Act.put, List.setIfInBounds_toArray, List.set_cons_zero, List.set_cons_succ]
                refine wpAnyH_take (i := 47) (oi := ⟨_, _, _, _, _, _⟩) (v := ?v194) rfl (by kernel_rfl) (by kernel_rfl) (by kernel_rfl) (fun _ _ _ h => h) ?y194 hS ?_
                case y194 => first | (refine Or.inr ⟨by rfl, ?_⟩; with_reducible rfl) | (refine Or.inl ⟨by rfl, ?_⟩; intro wS hSw; have q0 := cell_later hSw x0; have q1 := cell_later hSw x1; have q2 := cell_later hSw y0; have q3 := cell_later hSw y1; have q4 := cell_later hSw j0; have q5 := cell_later hSw j1; have q6 := cell_later hSw m0; have q7 := cell_later hSw m1; go_simp; try with_reducible rfl)
                simp only [Act.put, List.setIfInBounds_toArray, List.set_cons_zero, List.set_cons_succ]
                refine wpAnyH_take (i := 48) (oi := ⟨_, _, _, _, _, _⟩) (v := ?v195) rfl (by kernel_rfl) (by kernel_rfl) (by kernel_rfl) (fun _ _ _ h => h) ?y195 hS ?_
                case y195 => first | (refine Or.inr ⟨by rfl, ?_⟩; with_reducible rfl) | (refine Or.inl ⟨by rfl, ?_⟩; intro wS hSw; have q0 := cell_later hSw x0; have q1 := cell_later hSw x1; have q2 := cell_later hSw y0; have q3 := cell_later hSw y1; have q4 := cell_later hSw j0; have q5 := cell_later hSw j1; have q6 := cell_later hSw m0; have q7 := cell_later hSw m1; go_simp; try with_reducible rfl)
                simp only [Act.put, List.setIfInBounds_toArray, List.set_cons_zero, List.set_cons_succ]
                refine wpAnyH_take (i := 49) (oi := ⟨_, _, _, _, _, _⟩) (v := ?v196) rfl (by kernel_rfl) (by kernel_rfl) (by kernel_rfl) (fun _ _ _ h => h) ?y196 hS ?_
                case y196 => first | (refine Or.inr ⟨by rfl, ?_⟩; with_reducible rfl) | (refine Or.inl ⟨by rfl, ?_⟩; intro wS hSw; have q0 := cell_later hSw x0; have q1 := cell_later hSw x1; have q2 := cell_later hSw y0; have q3 := cell_later hSw y1; have q4 := cell_later hSw j0; have q5 := cell_later hSw j1; have q6 := cell_later hSw m0; have q7 := cell_later hSw m1; go_simp; try with_reducible rfl)
                simp only [Act.put, List.setIfInBounds_toArray, List.set_cons_zero, List.set_cons_succ]
                refine wpAnyH_take (i := 50) (oi := ⟨_, _, _, _, _, _⟩) (v := ?v197) rfl (by kernel_rfl) (by kernel_rfl) (by kernel_rfl) (fun _ _ _ h => h) ?y197 hS ?_
                case y197 => first | (refine Or.inr ⟨by rfl, ?_⟩; with_reducible rfl) | (refine Or.inl ⟨by rfl, ?_⟩; intro wS hSw; have q0 := cell_later hSw x0; have q1 := cell_later hSw x1; have q2 := cell_later hSw y0; have q3 := cell_later hSw y1; have q4 := cell_later hSw j0; have q5 := cell_later hSw j1; have q6 := cell_later hSw m0; have q7 := cell_later hSw m1; go_simp; try with_reducible rfl)
                simp only [Act.put, List.setIfInBounds_toArray, List.set_cons_zero, List.set_cons_succ]
                refine wpAnyH_take (i := 51) (oi := ⟨_, _, _, _, _, _⟩) (v := ?v198) rfl (by kernel_rfl) (by kernel_rfl) (by kernel_rfl) (fun _ _ _ h => h) ?y198 hS ?_
                case y198 => first | (refine Or.inr ⟨by rfl, ?_⟩; with_reducible rfl) | (refine Or.inl ⟨by rfl, ?_⟩; intro wS hSw; have q0 := cell_later hSw x0; have q1 := cell_later hSw x1; have q2 := cell_later hSw y0; have q3 := cell_later hSw y1; have q4 := cell_later hSw j0; have q5 := cell_later hSw j1; have q6 := cell_later hSw m0; have q7 := cell_later hSw m1; go_simp; try with_reducible rfl)
                simp only [Act.put, List.setIfInBounds_toArray, List.set_cons_zero, List.set_cons_succ]
                refine wpAnyH_take (i := 52) (oi := ⟨_, _, _, _, _, _⟩) (v := ?v199) rfl (by kernel_rfl) (by kernel_rfl) (by kernel_rfl) (fun _ _ _ h => h) ?y199 hS ?_
                case y199 => first | (refine Or.inr ⟨by rfl, ?_⟩; with_reducible rfl) | (refine Or.inl ⟨by rfl, ?_⟩; intro wS hSw; have q0 := cell_later hSw x0; have q1 := cell_later hSw x1; have q2 := cell_later hSw y0; have q3 := cell_later hSw y1; have q4 := cell_later hSw j0; have q5 := cell_later hSw j1; have q6 := cell_later hSw m0; have q7 := cell_later hSw m1; go_simp; try with_reducible rfl)
                simp only [Act.put, List.setIfInBounds_toArray, List.set_cons_zero, List.set_cons_succ]
                refine wpAnyH_take (i := 53) (oi := ⟨_, _, _, _, _, _⟩) (v := ?v200) rfl (by kernel_rfl) (by kernel_rfl) (by kernel_rfl) (fun _ _ _ h => h) ?y200 hS ?_
                case y200 => first | (refine Or.inr ⟨by rfl, ?_⟩; with_reducible rfl) | (refine Or.inl ⟨by rfl, ?_⟩; intro wS hSw; have q0 := cell_later hSw x0; have q1 := cell_later hSw x1; have q2 := cell_later hSw y0; have q3 := cell_later hSw y1; have q4 := cell_later hSw j0; have q5 := cell_later hSw j1; have q6 := cell_later hSw m0; have q7 := cell_later hSw m1; go_simp; try with_reducible rfl)
                simp only [Act.put, List.setIfInBounds_toArray, List.set_cons_zero, List.set_cons_succ]
                refine wpAnyH_take (i := 54) (oi := ⟨_, _, _, _, _, _⟩) (v := ?v201) rfl (by kernel_rfl) (by kernel_rfl) (by kernel_rfl) (fun _ _ _ h => h) ?y201 hS ?_
                case y201 => first | (refine Or.inr ⟨by rfl, ?_⟩; with_reducible rfl) | (refine Or.inl ⟨by rfl, ?_⟩; intro wS hSw; have q0 := cell_later hSw x0; have q1 := cell_later hSw x1; have q2 := cell_later hSw y0; have q3 := cell_later hSw y1; have q4 := cell_later hSw j0; have q5 := cell_later hSw j1; have q6 := cell_later hSw m0; have q7 := cell_later hSw m1; go_simp; try with_reducible rfl)
                simp only [Act.put, List.setIfInBounds_toArray, List.set_cons_zero, List.set_cons_succ]
                refine wpAnyH_take (i := 55) (oi := ⟨_, _, _, _, _, _⟩) (v := ?v202) rfl (by kernel_rfl) (by kernel_rfl) (by kernel_rfl) (fun _ _ _ h => h) ?y202 hS ?_
                case y202 => first | (refine Or.inr ⟨by rfl, ?_⟩; with_reducible rfl) | (refine Or.inl ⟨by rfl, ?_⟩; intro wS hSw; have q0 := cell_later hSw x0; have q1 := cell_later hSw x1; have q2 := cell_later hSw y0; have q3 := cell_later hSw y1; have q4 := cell_later hSw j0; have q5 := cell_later hSw j1; have q6 := cell_later hSw m0; have q7 := cell_later hSw m1; go_simp; try with_reducible rfl)
                simp only [Act.put, List.setIfInBounds_toArray, List.set_cons_zero, List.set_cons_succ]
                refine wpAnyH_take (i := 56) (oi := ⟨_, _, _, _, _, _⟩) (v := ?v203) rfl (by kernel_rfl) (by kernel_rfl) (by kernel_rfl) (fun _ _ _ h => h) ?y203 hS ?_
                case y203 => first | (refine Or.inr ⟨by rfl, ?_⟩; with_reducible rfl) | (refine Or.inl ⟨by rfl, ?_⟩; intro wS hSw; have q0 := cell_later hSw x0; have q1 := cell_later hSw x1; have q2 := cell_later hSw y0; have q3 := cell_later hSw y1; have q4 := cell_later hSw j0; have q5 := cell_later hSw j1; have q6 := cell_later hSw m0; have q7 := cell_later hSw m1; go_simp; try with_reducible rfl)
                simp only [Act.put, List.setIfInBounds_toArray, List.set_cons_zero, List.set_cons_succ]
                refine wpAnyH_take (i := 57) (oi := ⟨_, _, _, _, _, _⟩) (v := ?v204) rfl (by kernel_rfl) (by kernel_rfl) (by kernel_rfl) (fun _ _ _ h => h) ?y204 hS ?_
                case y204 => first | (refine Or.inr ⟨by rfl, ?_⟩; with_reducible rfl) | (refine Or.inl ⟨by rfl, ?_⟩; intro wS hSw; have q0 := cell_later hSw x0; have q1 := cell_later hSw x1; have q2 := cell_later hSw y0; have q3 := cell_later hSw y1; have q4 := cell_later hSw j0; have q5 := cell_later hSw j1; have q6 := cell_later hSw m0; have q7 := cell_later hSw m1; go_simp; try with_reducible rfl)
                simp only [Act.put, List.setIfInBounds_toArray, List.set_cons_zero, List.set_cons_succ]
                refine wpAnyH_done (by kernel_rfl) ?_ _
                have hs := HS.out.step hS
                clear hS j0 j1 m0 m1
                clear x0 x1 y0 y1 z0 z1 HS
                have HS := Lib.hid hs
                obtain ⟨x0, x1, y0, y1, z0, z1⟩ := hs.boxes
                clear hs
                go_wp2
                go_meet
                exact HS.out
      case rest =>
        have hs := hcut
        clear K4 M1 M2 HAw KR2
        clear x0 x1 y0 y1 z0 z1 HS
        have HS := Lib.hid hs
        obtain ⟨x0, x1, y0, y1, z0, z1⟩ := hs.boxes
        clear hs
        rcases rules_cut t a b c d with ⟨h1, h2 | ⟨⟨y, h2⟩, h3⟩⟩ | ⟨hr, x, h1, hx, hxl, h2 | ⟨y, h2, hy, hyl, h3 | ⟨h3, i, j, k, e1, e2, e3, e4, e5, e6, e7⟩⟩⟩
        · as_aux_lemma =>
            have C1 := Lib.hid h1
            have C2 := Lib.hid h2
            clear h1 h2
            go_wp2_with fail
            refine (sCut_any a b _ t _ (H.out.later HS.out.1) HLn.out).mono ?_
            rintro e9 u1 hcr
            obtain ⟨rfl, hb⟩ := cutR_none hcr C1.out
            have hs := HS.out.step hb
            clear hb hcr
            clear x0 x1 y0 y1 z0 z1 HS
            have HS := Lib.hid hs
            obtain ⟨x0, x1, y0, y1, z0, z1⟩ := hs.boxes
            clear hs
            go_wp2_with fail
            refine (sCut_any c d _ t _ (H.out.later HS.out.1) HLn.out).mono ?_
            rintro e9 u2 hcr
            obtain ⟨rfl, hb⟩ := cutR_none hcr C2.out
            have hs := HS.out.step hb
            clear hb hcr
            clear x0 x1 y0 y1 z0 z1 HS
            have HS := Lib.hid hs
            obtain ⟨x0, x1, y0, y1, z0, z1⟩ := hs.boxes
            clear hs
            go_wp2
            go_ret
            exact ⟨rfl, HS.out.1⟩
        · as_aux_lemma =>
            have C1 := Lib.hid h1
            have C2 := Lib.hid h2
            clear h1 h2
            rw [h3] at K1
            clear h3
            go_wp2_with fail
            refine (sCut_any a b _ t _ (H.out.later HS.out.1) HLn.out).mono ?_
            rintro e9 u1 hcr
            obtain ⟨rfl, hb⟩ := cutR_none hcr C1.out
            have hs := HS.out.step hb
            clear hb hcr
            clear x0 x1 y0 y1 z0 z1 HS
            have HS := Lib.hid hs
            obtain ⟨x0, x1, y0, y1, z0, z1⟩ := hs.boxes
            clear hs
            go_wp2_with fail
            refine (sCut_any c d _ t _ (H.out.later HS.out.1) HLn.out).mono ?_
            rintro e9 u2 hcr
            obtain ⟨gy, cy, rfl, hy, hb⟩ := cutR_some hcr C2.out
            have hs := HS.out.step hb
            clear hb hcr hy
            clear x0 x1 y0 y1 z0 z1 HS
            have HS := Lib.hid hs
            obtain ⟨x0, x1, y0, y1, z0, z1⟩ := hs.boxes
            clear hs
            go_wp2_with fail
            refine (K1.out _ HS.out).mono ?_
            rintro e uu ⟨rfl, hs⟩
            clear x0 x1 y0 y1 z0 z1 HS
            have HS := Lib.hid hs
            obtain ⟨x0, x1, y0, y1, z0, z1⟩ := hs.boxes
            clear hs
            go_wp2
            go_ret
            exact ⟨rfl, HS.out.1⟩
        · as_aux_lemma =>
            rw [hr] at KR1
            have C1 := Lib.hid h1
            have C2 := Lib.hid h2
            obtain ⟨p, hp⟩ : ∃ p, p = x.length := ⟨_, rfl⟩
            have HP := Lib.hid hp
            rw [← hp] at hx
            rw [← hx] at KN1
            have hp1 : p ≤ 1000000 := by have := HLn.out; omega
            clear h1 h2 hr hp hx hxl
            go_wp2_with fail
            refine (sCut_any a b _ t _ (H.out.later HS.out.1) HLn.out).mono ?_
            rintro e9 u1 hcr
            obtain ⟨gx, cx, rfl, hx, hb⟩ := cutR_some hcr C1.out
            have hs := HS.out.step hb
            rw [← HP.out]
            clear hb hcr hx
            clear x0 x1 y0 y1 z0 z1 HS
            have HS := Lib.hid hs
            obtain ⟨x0, x1, y0, y1, z0, z1⟩ := hs.boxes
            clear hs
            go_wp2_with fail
            refine (sCut_any c d _ t _ (H.out.later HS.out.1) HLn.out).mono ?_
            rintro e9 u2 hcr
            obtain ⟨rfl, hb⟩ := cutR_none hcr C2.out
            have hs := HS.out.step hb
            clear hb hcr
            clear x0 x1 y0 y1 z0 z1 HS
            have HS := Lib.hid hs
            obtain ⟨x0, x1, y0, y1, z0, z1⟩ := hs.boxes
            clear hs
            go_wp2_with fail
            refine (KN1.out _ HS.out).mono ?_
            rintro e uu ⟨rfl, hs⟩
            clear x0 x1 y0 y1 z0 z1 HS
            have HS := Lib.hid hs
            obtain ⟨x0, x1, y0, y1, z0, z1⟩ := hs.boxes
            clear hs
            go_wp2_with fail
            refine (KR1.out _ HS.out).mono ?_
            rintro e uu ⟨rfl, hs⟩
            clear x0 x1 y0 y1 z0 z1 HS
            have HS := Lib.hid hs
            obtain ⟨x0, x1, y0, y1, z0, z1⟩ := hs.boxes
            clear hs
            go_wp2
            go_ret
            exact ⟨rfl, HS.out.1⟩
        · as_aux_lemma =>
            rw [hr] at KR1
            have C1 := Lib.hid h1
            have C2 := Lib.hid h2
            obtain ⟨p, hp⟩ : ∃ p, p = x.length := ⟨_, rfl⟩
            have HP := Lib.hid hp
            rw [← hp] at hx
            rw [← hx] at KN1
            have hp1 : p ≤ 1000000 := by have := HLn.out; omega
            clear h1 h2 hr hp hx hxl
            have HY0 := Lib.hid hy
            obtain ⟨q, hq⟩ : ∃ q, q = y.length := ⟨_, rfl⟩
            have HQ := Lib.hid hq
            rw [← hq] at hy
            rw [← hy] at KN2
            have hq1 : q ≤ 1000000 := by have := HLn.out; omega
            clear hy hq hyl HY0
            rw [h3] at K1
            clear h3
            go_wp2_with fail
            refine (sCut_any a b _ t _ (H.out.later HS.out.1) HLn.out).mono ?_
            rintro e9 u1 hcr
            obtain ⟨gx, cx, rfl, hx, hb⟩ := cutR_some hcr C1.out
            have hs := HS.out.step hb
            rw [← HP.out]
            clear hb hcr hx
            clear x0 x1 y0 y1 z0 z1 HS
            have HS := Lib.hid hs
            obtain ⟨x0, x1, y0, y1, z0, z1⟩ := hs.boxes
            clear hs
            go_wp2_with fail
            refine (sCut_any c d _ t _ (H.out.later HS.out.1) HLn.out).mono ?_
            rintro e9 u2 hcr
            obtain ⟨gy, cy, rfl, hy, hb⟩ := cutR_some hcr C2.out
            have hs := HS.out.step hb
            rw [← HQ.out]
            clear hb hcr hy
            clear x0 x1 y0 y1 z0 z1 HS
            have HS := Lib.hid hs
            obtain ⟨x0, x1, y0, y1, z0, z1⟩ := hs.boxes
            clear hs
            go_wp2_with fail
            refine (KN1.out _ HS.out).mono ?_
            rintro e uu ⟨rfl, hs⟩
            clear x0 x1 y0 y1 z0 z1 HS
            have HS := Lib.hid hs
            obtain ⟨x0, x1, y0, y1, z0, z1⟩ := hs.boxes
            clear hs
            go_wp2_with fail
            refine (KR1.out _ HS.out).mono ?_
            rintro e uu ⟨rfl, hs⟩
            clear x0 x1 y0 y1 z0 z1 HS
            have HS := Lib.hid hs
            obtain ⟨x0, x1, y0, y1, z0, z1⟩ := hs.boxes
            clear hs
            go_wp2_with fail
            refine (K1.out _ HS.out).mono ?_
            rintro e uu ⟨rfl, hs⟩
            clear x0 x1 y0 y1 z0 z1 HS
            have HS := Lib.hid hs
            obtain ⟨x0, x1, y0, y1, z0, z1⟩ := hs.boxes
            clear hs
            go_wp2
            go_ret
            exact ⟨rfl, HS.out.1⟩
        · as_aux_lemma =>
            have RN1 := Lib.hid (fun u => sLen_any a b u HBd.out)
            have RR1 := Lib.hid (fun u => sRight_any a b u)
            have RI1 := Lib.hid (fun u => sIn_any a b c d u)
            have RN2 := Lib.hid (fun u => sLen_any c d u HDd.out)
            rw [siB_eq, h3] at RI1
            rw [hr] at RR1
            rw [← hx] at RN1
            rw [← hy] at RN2
            have HE5 := Lib.hid e5
            have HE7 := Lib.hid e7
            have HKb := Lib.hid e6
            rw [hr] at KR1
            have C1 := Lib.hid h1
            have C2 := Lib.hid h2
            obtain ⟨p, hp⟩ : ∃ p, p = x.length := ⟨_, rfl⟩
            have HP := Lib.hid hp
            rw [← hp] at hx
            rw [← hx] at KN1
            have hp1 : p ≤ 1000000 := by have := HLn.out; omega
            clear h1 h2 hr hp hx hxl
            have HY0 := Lib.hid hy
            obtain ⟨q, hq⟩ : ∃ q, q = y.length := ⟨_, rfl⟩
            have HQ := Lib.hid hq
            rw [← hq] at hy
            rw [← hy] at KN2
            have hq1 : q ≤ 1000000 := by have := HLn.out; omega
            clear hy hq hyl HY0
            rw [← HP.out] at RN1
            rw [← HQ.out] at RN2
            have e5' : j ≤ q := by rw [HQ.out]; exact HE5.out
            have hw1 : IntKind.i64.wrap (a - c) = (i : Int) := by rw [e1, e2]; have h9 := HKb.out; have h8 := HLn.out; exact (IntWalk.i64_in _ (by omega)).trans (by omega)
            have hw2 : IntKind.i64.wrap (b - c) = (j : Int) := by rw [e1, e3]; have h9 := HKb.out; have h8 := HLn.out; exact (IntWalk.i64_in _ (by omega)).trans (by omega)
            have HW1 := Lib.hid hw1
            have HW2 := Lib.hid hw2
            clear h3 e1 e2 e3 e5 e6 e7 hw1 hw2
            go_wp2_with fail
            refine (sCut_any a b _ t _ (H.out.later HS.out.1) HLn.out).mono ?_
            rintro e9 u1 hcr
            obtain ⟨gx, cx, rfl, hx, hb⟩ := cutR_some hcr C1.out
            have hs := HS.out.step hb
            have HX := Lib.hid hx
            rw [← HP.out] at HX ⊢
            clear hb hcr hx
            clear x0 x1 y0 y1 z0 z1 HS
            have HS := Lib.hid hs
            obtain ⟨x0, x1, y0, y1, z0, z1⟩ := hs.boxes
            clear hs
            go_wp2_with fail
            refine (sCut_any c d _ t _ (H.out.later HS.out.1) HLn.out).mono ?_
            rintro e9 u2 hcr
            obtain ⟨gy, cy, rfl, hy, hb⟩ := cutR_some hcr C2.out
            have hs := HS.out.step hb
            have HX2 := Lib.hid (HX.out.later hb)
            have HY := Lib.hid hy
            rw [← HQ.out] at HY ⊢
            clear hb hcr hy HX
            clear x0 x1 y0 y1 z0 z1 HS
            have HS := Lib.hid hs
            obtain ⟨x0, x1, y0, y1, z0, z1⟩ := hs.boxes
            clear hs
            obtain ⟨ub, hub⟩ : ∃ z, z = u2.heap.size := ⟨_, rfl⟩
            have HZ := Lib.hid (Below.refl u2.heap.size u2)
            clear hub ub
            have KN1T := Lib.hid (lift_two (u0 := u2) (w := w) (X := X) (a := a) (b := b) (c := c) (d := d) (e := e) (f := f) RN1.out)
            have KR1T := Lib.hid (lift_two (u0 := u2) (w := w) (X := X) (a := a) (b := b) (c := c) (d := d) (e := e) (f := f) RR1.out)
            have K1T := Lib.hid (lift_two (u0 := u2) (w := w) (X := X) (a := a) (b := b) (c := c) (d := d) (e := e) (f := f) RI1.out)
            have KN2T := Lib.hid (lift_two (u0 := u2) (w := w) (X := X) (a := a) (b := b) (c := c) (d := d) (e := e) (f := f) RN2.out)
            clear RN1 RR1 RI1 RN2
            go_wp2_with fail
            refine (KN1T.out _ ⟨HS.out, HZ.out⟩).mono ?_
            rintro e9 uu ⟨rfl, hs, hz⟩
            clear x0 x1 y0 y1 z0 z1 HS HZ
            have HS := Lib.hid hs
            have HZ := Lib.hid hz
            obtain ⟨x0, x1, y0, y1, z0, z1⟩ := hs.boxes
            clear hs hz
            go_wp2_with fail
            refine (KR1T.out _ ⟨HS.out, HZ.out⟩).mono ?_
            rintro e9 uu ⟨rfl, hs, hz⟩
            clear x0 x1 y0 y1 z0 z1 HS HZ
            have HS := Lib.hid hs
            have HZ := Lib.hid hz
            obtain ⟨x0, x1, y0, y1, z0, z1⟩ := hs.boxes
            clear hs hz
            go_wp2_with fail
            refine (K1T.out _ ⟨HS.out, HZ.out⟩).mono ?_
            rintro e9 uu ⟨rfl, hs, hz⟩
            clear x0 x1 y0 y1 z0 z1 HS HZ
            have HS := Lib.hid hs
            have HZ := Lib.hid hz
            obtain ⟨x0, x1, y0, y1, z0, z1⟩ := hs.boxes
            clear hs hz
            go_wp2_with fail
            refine (KN2T.out _ ⟨HS.out, HZ.out⟩).mono ?_
            rintro e9 uu ⟨rfl, hs, hz⟩
            clear x0 x1 y0 y1 z0 z1 HS HZ
            have HS := Lib.hid hs
            have HZ := Lib.hid hz
            obtain ⟨x0, x1, y0, y1, z0, z1⟩ := hs.boxes
            clear hs hz
            obtain ⟨ao2, b2, off2, cap2, he, hl2, hm2, hnil2, hao2, -⟩ := HY.out
            rw [← HQ.out] at hl2 hnil2 hao2
            simp only [Value.slice.injEq] at he
            obtain ⟨rfl, -, rfl⟩ := he
            have hw1 := HW1.out
            have hw2 := HW2.out
            have g1 : (i : Int) ≤ j := by omega
            have g2 : (j : Int) ≤ cy := by omega
            have g3 : j ≤ cy := by omega
            have hm3 : cy ≤ 9223372036854775807 := by unfold maxLen at hm2; omega
            have HM2 := Lib.hid hm2
            have HNil2 := Lib.hid hnil2
            have HAo2 := Lib.hid hao2
            clear hm2 hnil2 hao2
            by_cases hq0 : q = 0
            · have HEx := Lib.hid (show x = [] from by rw [← HE7.out, show j - i = 0 from by omega]; rfl)
              obtain rfl : i = 0 := by omega
              obtain rfl : j = 0 := by omega
              cases hgy : gy with
              | none =>
                subst hgy
                obtain rfl : cy = 0 := (HNil2.out rfl).2
                as_aux_lemma =>
                  go_wp2_with fail
                  refine (sameBytes_any _ _ x _ (HX2.out.later HZ.out) ?_).mono ?_
                  · rw [HEx.out]; exact bytes_nil _
                  · rintro e9 u9 ⟨rfl, hb⟩
                    have hs := HS.out.step hb
                    clear hb
                    have HS9 := Lib.hid hs.1
                    clear hs
                    go_wp2
                    go_ret
                    exact ⟨rfl, HS9.out⟩
              | some ad =>
                subst hgy
                by_cases hc0 : cy = 0
                · subst hc0
                  as_aux_lemma =>
                    go_wp2_with fail
                    refine (sameBytes_any _ _ x _ (HX2.out.later HZ.out) ?_).mono ?_
                    · rw [HEx.out]; exact bytes_empty _ _ 0 (by unfold maxLen; omega) (fun h => by cases h)
                    · rintro e9 u9 ⟨rfl, hb⟩
                      have hs := HS.out.step hb
                      clear hb
                      have HS9 := Lib.hid hs.1
                      clear hs
                      go_wp2
                      go_ret
                      exact ⟨rfl, HS9.out⟩
                · have hc0' : ¬ cy = 0 := hc0
                  as_aux_lemma =>
                    go_wp2_with fail
                    refine (sameBytes_any _ _ x _ (HX2.out.later HZ.out) ?_).mono ?_
                    · rw [HEx.out]; exact bytes_empty _ _ cy HM2.out (fun h => by cases h)
                    · rintro e9 u9 ⟨rfl, hb⟩
                      have hs := HS.out.step hb
                      clear hb
                      have HS9 := Lib.hid hs.1
                      clear hs
                      go_wp2
                      go_ret
                      exact ⟨rfl, HS9.out⟩
            · obtain rfl : gy = some ⟨b2, off2, none⟩ := HAo2.out (by omega)
              by_cases hci : cy = i
              · have HEx := Lib.hid (show x = [] from by rw [← HE7.out, show j - i = 0 from by omega]; rfl)
                have hji : j - i = 0 := by omega
                have hci2 : cy - i = 0 := by omega
                as_aux_lemma =>
                  go_wp2_with fail
                  refine (sameBytes_any _ _ x _ (HX2.out.later HZ.out) ?_).mono ?_
                  · rw [HEx.out]; exact bytes_empty _ _ 0 (by unfold maxLen; omega) (fun h => by cases h)
                  · rintro e9 u9 ⟨rfl, hb⟩
                    have hs := HS.out.step hb
                    clear hb
                    have HS9 := Lib.hid hs.1
                    clear hs
                    go_wp2
                    go_ret
                    exact ⟨rfl, HS9.out⟩
              · have hci' : ¬ cy = i := hci
                as_aux_lemma =>
                  go_wp2_with fail
                  refine (sameBytes_any _ _ x _ (HX2.out.later HZ.out) ?_).mono ?_
                  · rw [← HE7.out]; exact bytes_part (HY.out.later HZ.out) (by omega) e5' (by omega)
                  · rintro e9 u9 ⟨rfl, hb⟩
                    have hs := HS.out.step hb
                    clear hb
                    have HS9 := Lib.hid hs.1
                    clear hs
                    go_wp2
                    go_ret
                    exact ⟨rfl, HS9.out⟩
end Go.Proofs.Ytndminmefacmnaa
