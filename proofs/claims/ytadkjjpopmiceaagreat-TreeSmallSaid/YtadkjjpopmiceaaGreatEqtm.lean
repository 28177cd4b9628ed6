import Derived.Test.YtadkjjpopmiceaaGreatOwtm
namespace Go.Proofs.YtadkjjpopmiceaaGreat
open Go.RowKit Go.Lib

set_option maxRecDepth 100000 in
theorem eqs_any (n : Nat) (w : World) (c d : Int) : (Op.equalIn (n + 2) 43 (.agg #[.int .i64 c, .int .i64 d]) (.agg #[.int .i64 c, .int .i64 d])).run Tryz.prog w = .ok true w := by
  have u3 := Tryz.underlying3
  rw [show n + 2 = (n + 1) + 1 from rfl, Op.equalIn]
  simp only [Sem.run_bind, run_underlying Tryz.underlying43, Result.andThen_ok]
  go_simp
set_option maxRecDepth 100000 in
theorem eqt_any (n : Nat) (w : World) (a b c d e : Int) : (Op.equalIn (n + 3) 45 (.agg #[.int .i64 a, .int .i64 b, .int .i64 c, .int .i64 d, .int .i64 e]) (.agg #[.int .i64 a, .int .i64 b, .int .i64 c, .int .i64 d, .int .i64 e])).run Tryz.prog w = .ok true w := by
  have u3 := Tryz.underlying3
  have hs := eqs_any n
  rw [show n + 3 = (n + 2) + 1 from rfl, Op.equalIn]
  simp only [Sem.run_bind, run_underlying Tryz.underlying45, Result.andThen_ok]
  go_simp
theorem eqt_10000 (w : World) (a b c d e : Int) : (Op.equalIn 10000 45 (.agg #[.int .i64 a, .int .i64 b, .int .i64 c, .int .i64 d, .int .i64 e]) (.agg #[.int .i64 a, .int .i64 b, .int .i64 c, .int .i64 d, .int .i64 e])).run Tryz.prog w = .ok true w := eqt_any 9997 w a b c d e
theorem twig_self (w : World) (a b c d e : Int) : (binOp .eql 45 (.agg #[.int .i64 a, .int .i64 b, .int .i64 c, .int .i64 d, .int .i64 e]) (.agg #[.int .i64 a, .int .i64 b, .int .i64 c, .int .i64 d, .int .i64 e])).run Tryz.prog w = .ok (.bool true) w := by
  rw [run_eql_struct]
  rw [eqt_10000]
  rfl
theorem twig_guard (w : World) (op : BinOp) (x y : Operand) (a b c d e a' b' c' d' e' : Int) : (eqGuard op 45 x y (.agg #[.int .i64 a, .int .i64 b, .int .i64 c, .int .i64 d, .int .i64 e]) (.agg #[.int .i64 a', .int .i64 b', .int .i64 c', .int .i64 d', .int .i64 e'])).run Tryz.prog w = .ok () w := by
  have hg : Tryz.prog.eqGuardType Tryz.prog.depth 45 = false := by kernel_rfl
  unfold eqGuard
  cases op <;> simp [hg]
/-- a marked twig, as one thing: the walk shall not open it. -/
def mkv (x : Int) : Value := .agg #[.int .i64 x, .int .i64 0, .int .i64 0, .int .i64 0, .int .i64 0]
theorem mkv_fold (x : Int) : (.agg #[.int .i64 x, .int .i64 0, .int .i64 0, .int .i64 0, .int .i64 0] : Value) = mkv x := rfl
theorem mkv_eql (w : World) (x : Int) : (binOp .eql 45 (mkv x) (mkv x)).run Tryz.prog w = .ok (.bool true) w := twig_self w x 0 0 0 0
theorem mkv_guard (w : World) (op : BinOp) (a b : Operand) (x y : Int) : (eqGuard op 45 a b (mkv x) (mkv y)).run Tryz.prog w = .ok () w := twig_guard w op a b x 0 0 0 0 y 0 0 0 0
/-- two marked twigs are held against each other. -/
theorem exec_mkv_eql {ev : Operand → Value} {x y : Operand} {z : Int} {d : Option Tmp} {ty rt : TypeId} {pos : String} {af : Array Edge} {g : Option (Nat × Bool)} (w : World) (hx : ev x = mkv z) (hy : ev y = mkv z) :
    Sem.run Tryz.prog (execOp ev { dst := d, op := Op.binOp BinOp.eql 45 x y rt, type := ty, pos := pos, after := af, guard := g }) w = Result.ok (Next.value (Value.bool true)) w := by
  have h1 := mkv_eql
  have h2 := mkv_guard
  go_simp
end Go.Proofs.YtadkjjpopmiceaaGreat
