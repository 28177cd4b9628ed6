/-
  Nobody to ask, no store.
-/
import Derived.Test.YtebgleehmgmfbaaTwi
namespace Go.Proofs.Ytebgleehmgmfbaa
open Go.RowKit Go.Lib

set_option maxHeartbeats 400000 in
theorem made_nil (w : World) : Calls Try.prog 31 #[.pointer none] w fun e w' => e = .returned (.bool false) ∧ w = w' := by
  go_enter Try.func31, Try.ntmps31
  go_wp2
  go_ret
  exact ⟨rfl, rfl⟩
set_option maxHeartbeats 400000 in
theorem made_zero {s : Nat} (w : World) (h : w.heap[s]? = some (.cells #[.slice none 0 0, .map none] 67 (0, 0))) : Calls Try.prog 31 #[.pointer (some ⟨s, 0, none⟩)] w fun e w' => e = .returned (.bool false) ∧ w = w' := by
  have c1 : w.cell? ⟨s, 1, none⟩ = some (.map none) := by simp [World.cell?, h]
  clear h
  have qT : ∀ (w : World) (r : Option Nat), (binOp .neq 65 (.map r) (.map none)).run Try.prog w = .ok (.bool (!r.isNone)) w := fun w r => run_neq_map_nil w _ _ _ r Try.underlying65
  go_enter Try.func31, Try.ntmps31
  go_wp2
  go_ret
  exact ⟨rfl, rfl⟩
set_option maxHeartbeats 400000 in
theorem begin_nil {v : Value} (a b : Int) (w : World) (h : ∀ wq, Below w.heap.size w wq → Calls Try.prog 31 #[v] wq fun e w' => e = .returned (.bool false) ∧ wq = w') :
    Calls Try.prog 21 #[v, .int .i64 a, .int .i64 b] w fun e w' => e = .returned (.int .i64 1) ∧ Below w.heap.size w w' := by
  have H := Lib.hid h
  clear h
  go_enter Try.func21, Try.ntmps21
  go_wp2_with fail
  refine (H.out _ (Below.refl _ _)).mono ?_
  rintro e w2 ⟨rfl, rfl⟩
  go_wp2
  go_ret
  exact ⟨rfl, Below.refl _ _⟩
set_option maxRecDepth 100000 in
set_option maxHeartbeats 1000000 in
/-- no store. -/
theorem grow_nil {v : Value} {sb : Nat} {a b lev : Int} (w : World) (h : ∀ wq, Below w.heap.size w wq → Calls Try.prog 31 #[v] wq fun e w' => e = .returned (.bool false) ∧ wq = w') :
    Calls Try.prog 10 #[v, .int .i64 a, .int .i64 b, .int .i64 lev, .func (.func 11) #[.pointer (some ⟨sb, 0, none⟩)] #[]] w fun e w' =>
      e = .returned (.tuple #[.agg #[.bool false, .int .i64 0, .int .i64 0, .slice none 0 0], .int .i64 0, .int .i64 1]) ∧ Below w.heap.size w w' := by
  have HB := Lib.hid (fun (wq : World) (hb : Below w.heap.size w wq) => begin_nil a b wq fun w2 h2 => h w2 (hb.trans (h2.mono hb.size)))
  clear h
  have qF : ∀ (w : World) (x : Fn) (b fr : Array Value), (binOp .eql 42 (.func x b fr) .nilFunc).run Try.prog w = .ok (.bool false) w := fun w x b fr => run_eql_closure w _ x b fr bodyType
  go_enter Try.func10, Try.ntmps10
  go_upto_region 1 with (fail)
  refine gen_world (S := fun u => Below w.heap.size w u ∧ u.heap[w.heap.size]? = some (.cells #[.bool false, .int .i64 0, .int .i64 0, .slice none 0 0] 38 (0, 0))) (one_new w _) (fun u hu => ?_)
  obtain ⟨hb, h1⟩ := hu
  have Hb := Lib.hid hb
  have H1 := Lib.hid h1
  clear hb h1
  go_wp2_with fail
  refine (HB.out u Hb.out).mono ?_
  rintro e w2 ⟨rfl, hb2⟩
  have H12 := Lib.hid ((hb2.block _ (lt_of_block H1.out)).trans H1.out)
  have HB2 := Lib.hid (Hb.out.trans (hb2.mono Hb.out.size))
  obtain ⟨r0, r1, r2, r3, k0, k1, k2, k3⟩ := four_box H12.out
  clear hb2 H1
  go_wp2
  obtain ⟨q, hq⟩ := set4 H12.out (.bool false) (.int .i64 0) (.int .i64 0) (.slice none 0 0)
  obtain ⟨q0, q1, q2, q3, -⟩ := four_box q
  exact bodyPost_ret (v := .tuple #[.agg #[.bool false, .int .i64 0, .int .i64 0, .slice none 0 0], .int .i64 0, .int .i64 1]) (by simp [results, Try.f10, go_sem, q0, q1, q2, q3]) rfl ⟨rfl, Below.keeps HB2.out hq (Nat.le_refl _)⟩
set_option maxRecDepth 100000 in
set_option maxHeartbeats 1000000 in
/-- nobody to ask. -/
theorem grow_nobody {v : Value} {a b lev : Int} (w : World) :
    Calls Try.prog 10 #[v, .int .i64 a, .int .i64 b, .int .i64 lev, .nilFunc] w fun e w' =>
      e = .returned (.tuple #[.agg #[.bool false, .int .i64 0, .int .i64 0, .slice none 0 0], .int .i64 0, .int .i64 1]) ∧ Below w.heap.size w w' := by
  have qF : ∀ (w : World), (binOp .eql 42 .nilFunc .nilFunc).run Try.prog w = .ok (.bool true) w := fun w => run_eql_nilFunc w _ bodyType
  go_enter Try.func10, Try.ntmps10
  go_upto_region 1 with (fail)
  refine gen_world (S := fun u => Below w.heap.size w u ∧ u.heap[w.heap.size]? = some (.cells #[.bool false, .int .i64 0, .int .i64 0, .slice none 0 0] 38 (0, 0))) (one_new w _) (fun u hu => ?_)
  obtain ⟨hb, h1⟩ := hu
  have Hb := Lib.hid hb
  have H1 := Lib.hid h1
  obtain ⟨r0, r1, r2, r3, k0, k1, k2, k3⟩ := four_box h1
  clear hb h1
  go_wp2
  obtain ⟨q, hq⟩ := set4 H1.out (.bool false) (.int .i64 0) (.int .i64 0) (.slice none 0 0)
  obtain ⟨q0, q1, q2, q3, -⟩ := four_box q
  exact bodyPost_ret (v := .tuple #[.agg #[.bool false, .int .i64 0, .int .i64 0, .slice none 0 0], .int .i64 0, .int .i64 1]) (by simp [results, Try.f10, go_sem, q0, q1, q2, q3]) rfl ⟨rfl, Below.keeps Hb.out hq (Nat.le_refl _)⟩
end Go.Proofs.Ytebgleehmgmfbaa
