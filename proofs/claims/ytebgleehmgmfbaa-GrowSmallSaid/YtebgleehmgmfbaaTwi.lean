/-
  A pair that is live does not grow again.
-/
import Derived.Test.YtebgleehmgmfbaaAwk
namespace Go.Proofs.Ytebgleehmgmfbaa
open Go.RowKit Go.Lib

set_option maxRecDepth 100000 in
set_option maxHeartbeats 1000000 in
theorem grow_twice {base s m : Nat} {sv : Value} {F : Live} {p : Pr} {f : Fd} {sb : Nat} {lev : Int} (w : World) (hs : StIs base w s m sv F) (hp : (p, f) ∈ F) :
    Calls Try.prog 10 #[.pointer (some ⟨s, 0, none⟩), .int .i64 p.1, .int .i64 p.2, .int .i64 lev, bodyF sb] w fun e w' =>
      e = .returned (.tuple #[.agg #[.bool false, .int .i64 0, .int .i64 0, .slice none 0 0], .int .i64 0, .int .i64 8]) ∧ Below w.heap.size w w' := by
  have Hs := Lib.hid hs
  have Hp := Lib.hid hp
  clear hs hp
  unfold bodyF
  have qF : ∀ (w : World) (x : Fn) (b fr : Array Value), (binOp .eql 42 (.func x b fr) .nilFunc).run Try.prog w = .ok (.bool false) w := fun w x b fr => run_eql_closure w _ x b fr bodyType
  go_enter Try.func10, Try.ntmps10
  go_upto_region 1 with (fail)
  refine gen_world (S := fun u => Below w.heap.size w u ∧ u.heap[w.heap.size]? = some (.cells #[.bool false, .int .i64 0, .int .i64 0, .slice none 0 0] 38 (0, 0))) (one_new w _) (fun u hu => ?_)
  obtain ⟨hb, h1⟩ := hu
  have Hb := Lib.hid hb
  have H1 := Lib.hid h1
  clear hb h1
  go_wp2_with fail
  refine (st_twice u (Hs.out.later Hb.out) Hp.out).mono ?_
  rintro e w2 ⟨rfl, hb2⟩
  have H12 := Lib.hid ((hb2.block _ (lt_of_block H1.out)).trans H1.out)
  have HB2 := Lib.hid (Hb.out.trans (hb2.mono Hb.out.size))
  obtain ⟨r0, r1, r2, r3, k0, k1, k2, k3⟩ := four_box H12.out
  clear hb2 H1
  go_wp2
  obtain ⟨q, hq⟩ := set4 H12.out (.bool false) (.int .i64 0) (.int .i64 0) (.slice none 0 0)
  obtain ⟨q0, q1, q2, q3, -⟩ := four_box q
  exact bodyPost_ret (v := .tuple #[.agg #[.bool false, .int .i64 0, .int .i64 0, .slice none 0 0], .int .i64 0, .int .i64 8]) (by simp [results, Try.f10, go_sem, q0, q1, q2, q3]) rfl ⟨rfl, Below.keeps HB2.out hq (Nat.le_refl _)⟩
end Go.Proofs.Ytebgleehmgmfbaa
