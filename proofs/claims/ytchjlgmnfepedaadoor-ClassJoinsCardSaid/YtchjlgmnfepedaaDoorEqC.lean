/-
  Two classes are held against each other.
-/
import Derived.Test.YtchjlgmnfepedaaDoorCls
namespace Go.Proofs.YtchjlgmnfepedaaDoor
open Go.RowKit

theorem eqc_any (n : Nat) (w : World) (a0 a1 a2 a3 b0 b1 b2 b3 : Int) : (Op.equalIn (n + 2) 24 (.agg #[.int .u64 a0, .int .u64 a1, .int .u64 a2, .int .u64 a3]) (.agg #[.int .u64 b0, .int .u64 b1, .int .u64 b2, .int .u64 b3])).run Tryd.prog w = .ok (a0 == b0 && a1 == b1 && a2 == b2 && a3 == b3) w := by
  have u3 := Tryd.underlying22
  rw [show n + 2 = (n + 1) + 1 from rfl, Op.equalIn]
  simp only [Sem.run_bind, run_underlying Tryd.underlying24, Result.andThen_ok]
  simp only [Std.Legacy.Range.forIn_eq_forIn_range', Std.Legacy.Range.size, Nat.sub_zero, Nat.add_sub_cancel, Nat.div_one, List.range'_succ, List.range'_zero, List.forIn_cons, List.forIn_nil]
  go_simp
  by_cases h0 : a0 = b0 <;> by_cases h1 : a1 = b1 <;> by_cases h2 : a2 = b2 <;> by_cases h3 : a3 = b3 <;> simp [h0, h1, h2, h3]
theorem eqc_10000 (w : World) (a0 a1 a2 a3 b0 b1 b2 b3 : Int) : (Op.equalIn 10000 24 (.agg #[.int .u64 a0, .int .u64 a1, .int .u64 a2, .int .u64 a3]) (.agg #[.int .u64 b0, .int .u64 b1, .int .u64 b2, .int .u64 b3])).run Tryd.prog w = .ok (a0 == b0 && a1 == b1 && a2 == b2 && a3 == b3) w := eqc_any 9998 w a0 a1 a2 a3 b0 b1 b2 b3
theorem eqc_9999 (w : World) (a0 a1 a2 a3 b0 b1 b2 b3 : Int) : (Op.equalIn 9999 24 (.agg #[.int .u64 a0, .int .u64 a1, .int .u64 a2, .int .u64 a3]) (.agg #[.int .u64 b0, .int .u64 b1, .int .u64 b2, .int .u64 b3])).run Tryd.prog w = .ok (a0 == b0 && a1 == b1 && a2 == b2 && a3 == b3) w := eqc_any 9997 w a0 a1 a2 a3 b0 b1 b2 b3
/-- are two classes the same? -/
def clEq (s t : Nat → Bool) : Bool := decide (word s 0 = word t 0 ∧ word s 1 = word t 1 ∧ word s 2 = word t 2 ∧ word s 3 = word t 3)
theorem clEq_self (s : Nat → Bool) : clEq s s = true := by simp [clEq]
theorem clEq_clc {s t : Nat → Bool} (h : clc s = clc t) : clEq s t = true := by
  simp only [clc, Array.mk.injEq, List.cons.injEq, Value.int.injEq, and_true, true_and] at h
  simp only [clEq, decide_eq_true_eq]
  omega
theorem clc_clEq {s t : Nat → Bool} (h : clEq s t = true) : clc s = clc t := by
  simp only [clEq, decide_eq_true_eq] at h
  simp [clc, h]
theorem eqv_dec (s t : Nat → Bool) : ((word s 0 : Int) == word t 0 && (word s 1 : Int) == word t 1 && (word s 2 : Int) == word t 2 && (word s 3 : Int) == word t 3) = clEq s t := by
  rw [Bool.eq_iff_iff]
  simp only [clEq, Bool.and_eq_true, beq_iff_eq, decide_eq_true_eq]
  omega
theorem eqv_eql (w : World) (s t : Nat → Bool) : (binOp .eql 24 (clv s) (clv t)).run Tryd.prog w = .ok (.bool (clEq s t)) w := by
  unfold clv
  rw [run_eql_struct]
  simp only [clc]
  rw [eqc_10000, eqv_dec]
  rfl
theorem eqv_neq (w : World) (s t : Nat → Bool) : (binOp .neq 24 (clv s) (clv t)).run Tryd.prog w = .ok (.bool (!clEq s t)) w := by
  unfold clv
  rw [run_neq_struct]
  simp only [clc]
  rw [eqc_10000, eqv_dec]
  rfl
theorem eqv_guard (w : World) (op : BinOp) (x y : Operand) (s t : Nat → Bool) : (eqGuard op 24 x y (clv s) (clv t)).run Tryd.prog w = .ok () w := by
  have hg : Tryd.prog.eqGuardType Tryd.prog.depth 24 = false := by kernel_rfl
  unfold clv eqGuard
  cases op <;> simp [hg]
end Go.Proofs.YtchjlgmnfepedaaDoor
