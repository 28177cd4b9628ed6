/-
  Steps of SpanRows: a copy of spans, two spans are the same.
-/
import Derived.Test.YtndminmefacmnaaSnY
import Derived.Test.YtndminmefacmnaaSbd
import Derived.Test.YtndminmefacmnaaSob
namespace Go.Proofs.Ytndminmefacmnaa
open Go.RowKit Go.Lib

theorem sg_eql (a b : Int) (w : World) : (binOp .eql 23 (.agg #[.int .i64 a, .int .i64 b]) (.agg #[.int .i64 a, .int .i64 b])).run Try.prog w = .ok (.bool true) w := by
  go_simp
theorem step_copyS (w : World) {ops : Array Oper} {rest : List Oper} {o : Oper} {a : Act} {Q : Exit → Act → World → Prop} (hgd : o.guard = none) (s x : Operand)
    (ho : o.op = .call { callee := .builtin .append, args := #[s, x], argTypes := #[24, 24] }) (base : Nat) (hbase : base ≤ w.heap.size) (g : Nat) (hs : a.eval s = .slice (some ⟨g, 0, none⟩) 0 0) (hg : w.heap[g]? = some (.cells #[] 23 (0, 0))) (hbg : base ≤ g)
    (v : Value) (r : List Sg) (hx : a.eval x = v) (hv : SgsAt w v r) (hl : r.length ≤ 1000000)
    (h : ∀ v' w', SgOwn base w' v' r → Below base w w' → wpList Try.prog ops Q rest (a.put o.dst v') w') : wpList Try.prog ops Q (o :: rest) a w := by
  obtain ⟨ao, cap, rfl⟩ := hv.val
  obtain ⟨-, -, -, hnil, -⟩ := hv.cells
  obtain ⟨i0, hi, hz0, hz1, hz2⟩ := info_parts Try.infoSpan
  have hown : w.ownsRow base 23 2 (.slice (some ⟨g, 0, none⟩) 0 0) 0 [] := ⟨by simp, .inr ⟨g, 0, #[], rfl, hbg, hg, Nat.le_refl _, by unfold maxLen; omega, by simp, by simp⟩⟩
  exact wpList_append_own_any w hgd s x 24 ho base 23 i0 _ 2 16 Try.underlying24 hi hz0 hz1 hz2 rfl (by decide) _ 0 [] hs hown ao r.length cap (r.flatMap sgc) hx (by rw [flat_len sgc_len]) hnil (rows_news sgc_len (by omega) hv).2.2.2.2 (flat_one sgc_one r) (by unfold maxLen; omega) (by omega) hbase
    (fun v' w' ho' hgw => h v' w' (by unfold SgOwn; simpa using ho') ((Below.refl base w).grown hgw hbase (fun k hk => by cases hk; exact hbg)))
end Go.Proofs.Ytndminmefacmnaa
