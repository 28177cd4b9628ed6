/-
  gram: what a node has besides its kind.
-/
import Derived.Test.YtkimkghldilliaaGreatGrA
import Derived.Test.YtkimkghldilliaaGreatCat
import Derived.Test.YtkimkghldilliaaGreatCls
namespace Go.Proofs.YtkimkghldilliaaGreat
open Go.RowKit Go.Lib

def shv (x : Nd) (r : Int) : Value := .agg #[.int .i64 x.kind, .int .u64 x.c0, .int .u64 x.c1, .int .u64 x.c2, .int .u64 x.c3, .string x.text, .int .i64 x.rule, .int .i64 x.level, x.kv, .int .i64 r]
def cl0 (a0 a1 a2 a3 : Int) : Bool := a0 == 0 && a1 == 0 && a2 == 0 && a3 == 0
theorem eqz_10000 (w : World) (a0 a1 a2 a3 b0 b1 b2 b3 : Int) : (Op.equalIn 10000 58 (.agg #[.int .u64 a0, .int .u64 a1, .int .u64 a2, .int .u64 a3]) (.agg #[.int .u64 b0, .int .u64 b1, .int .u64 b2, .int .u64 b3])).run Tryz.prog w = .ok (a0 == b0 && a1 == b1 && a2 == b2 && a3 == b3) w := by
  have key : ∀ n : Nat, (Op.equalIn (n + 2) 58 (.agg #[.int .u64 a0, .int .u64 a1, .int .u64 a2, .int .u64 a3]) (.agg #[.int .u64 b0, .int .u64 b1, .int .u64 b2, .int .u64 b3])).run Tryz.prog w = .ok (a0 == b0 && a1 == b1 && a2 == b2 && a3 == b3) w := by
    intro n
    have u3 := Tryz.underlying56
    rw [show n + 2 = (n + 1) + 1 from rfl, Op.equalIn]
    simp only [Sem.run_bind, run_underlying Tryz.underlying58, Result.andThen_ok]
    simp only [Std.Legacy.Range.forIn_eq_forIn_range', Std.Legacy.Range.size, Nat.sub_zero, Nat.add_sub_cancel, Nat.div_one, List.range'_succ, List.range'_zero, List.forIn_cons, List.forIn_nil]
    go_simp
    by_cases h0 : a0 = b0 <;> by_cases h1 : a1 = b1 <;> by_cases h2 : a2 = b2 <;> by_cases h3 : a3 = b3 <;> simp [h0, h1, h2, h3]
  exact key 9998
theorem cl_eql (w : World) (a0 a1 a2 a3 : Int) : (binOp .eql 58 (.agg #[.int .u64 a0, .int .u64 a1, .int .u64 a2, .int .u64 a3]) (.agg #[.int .u64 0, .int .u64 0, .int .u64 0, .int .u64 0])).run Tryz.prog w = .ok (.bool (cl0 a0 a1 a2 a3)) w := by
  rw [run_eql_struct, eqz_10000]
  rfl
theorem cl_neq (w : World) (a0 a1 a2 a3 : Int) : (binOp .neq 58 (.agg #[.int .u64 a0, .int .u64 a1, .int .u64 a2, .int .u64 a3]) (.agg #[.int .u64 0, .int .u64 0, .int .u64 0, .int .u64 0])).run Tryz.prog w = .ok (.bool (!cl0 a0 a1 a2 a3)) w := by
  rw [run_neq_struct, eqz_10000]
  rfl
theorem cl_guard (w : World) (op : BinOp) (x y : Operand) (a b : Array Value) : (eqGuard op 58 x y (.agg a) (.agg b)).run Tryz.prog w = .ok () w := by
  have hg : Tryz.prog.eqGuardType Tryz.prog.depth 58 = false := by kernel_rfl
  unfold eqGuard
  cases op <;> simp [hg]
theorem ndPlain_eq (x : Nd) : ndPlain x = (cl0 x.c0 x.c1 x.c2 x.c3 && x.text.size == 0 && x.rule == 0 && x.level == 0) := rfl
theorem loop_ne (t : ByteArray) : ∀ (n i : Nat) (r : List UInt8), t.size - i = n → r ≠ [] → (ByteArray.toList.loop t i r).isEmpty = false := by
  intro n
  induction n with
  | zero =>
    intro i r h hr
    rw [ByteArray.toList.loop, if_neg (by omega)]
    simpa using hr
  | succ n ih =>
    intro i r h hr
    rw [ByteArray.toList.loop, if_pos (by omega)]
    exact ih (i + 1) _ (by omega) (by simp)
theorem str_empty (t : ByteArray) : t.toList.isEmpty = (t.size == 0) := by
  unfold ByteArray.toList
  rw [ByteArray.toList.loop]
  by_cases h : t.size = 0
  · rw [if_neg (by omega)]
    simp [h]
  · rw [if_pos (by omega), loop_ne t _ _ _ rfl (by simp)]
    simp [h]

set_option maxRecDepth 100000 in
set_option maxHeartbeats 2000000 in
theorem plain_any (x : Nd) (r : Int) (w : World) : Calls Tryz.prog 166 #[shv x r] w fun e w' => e = .returned (.bool (ndPlain x)) ∧ Below w.heap.size w w' := by
  rw [ndPlain_eq]
  obtain ⟨kind, c0, c1, c2, c3, text, rule, level, kids, kv⟩ := x
  unfold shv
  simp only
  have hq := cl_eql
  have hg := cl_guard
  have qe := str_empty text
  obtain ⟨b, hb⟩ : ∃ b, b = cl0 c0 c1 c2 c3 := ⟨_, rfl⟩
  have hq2 : ∀ w, (binOp .eql 58 (.agg #[.int .u64 c0, .int .u64 c1, .int .u64 c2, .int .u64 c3]) (.agg #[.int .u64 0, .int .u64 0, .int .u64 0, .int .u64 0])).run Tryz.prog w = .ok (.bool b) w := fun w => by rw [hb]; exact cl_eql w _ _ _ _
  rw [← hb]
  obtain ⟨d, hd⟩ : ∃ d, d = (text.size == 0) := ⟨_, rfl⟩
  rw [← hd] at qe ⊢
  clear hb hq hd
  by_cases h1 : rule = 0
  · by_cases h2 : level = 0
    all_goals cases b <;> cases d
    all_goals
      go_enter Tryz.func166, Tryz.ntmps166
      go_wp2
      go_ret
      exact ⟨by simp [h1, h2], (Below.refl _ _).alloc (Nat.le_refl _) _⟩
  · cases b <;> cases d
    all_goals
      go_enter Tryz.func166, Tryz.ntmps166
      go_wp2
      go_ret
      exact ⟨by simp [h1], (Below.refl _ _).alloc (Nat.le_refl _) _⟩
end Go.Proofs.YtkimkghldilliaaGreat
