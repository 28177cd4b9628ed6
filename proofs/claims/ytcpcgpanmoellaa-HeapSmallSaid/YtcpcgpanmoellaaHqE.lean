/-
  A queue: nothing is first.
-/
import Derived.Test.YtcpcgpanmoellaaHqD
namespace Go.Proofs.Ytcpcgpanmoellaa
open Go.RowKit Go.Lib

set_option maxRecDepth 100000 in
set_option maxHeartbeats 1000000 in
theorem qFirst0_any [Watch] {base : Nat} {qb r m : Nat} {t : Int} {lv : Value} (w : World) (h : QuIs base w qb r m t lv []) :
    Calls Try.prog 28 #[.pointer (some ⟨qb, 0, none⟩)] w fun e w' => e = .returned (.tuple #[.agg #[.int .i64 0, .int .i64 0], .bool false]) ∧ Below w.heap.size w w' := by
  have H := Lib.hid h
  obtain ⟨vo, vc, rfl⟩ := own_val h.row.row
  clear h
  go_enter Try.func28, Try.ntmps28
  go_upto_region 1 with (fail)
  refine gen_world (S := fun u => Below w.heap.size w u ∧ u.heap[w.heap.size]? = some (.cells #[.int .i64 0, .int .i64 0] 30 (0, 0))) (one_new w _) (fun u hu => ?_)
  obtain ⟨hb, hx⟩ := hu
  have HU := Lib.hid (H.out.later hb)
  have HB := Lib.hid hb
  have HX := Lib.hid hx
  obtain ⟨x0, x1⟩ := two_box hx
  have f0 : u.frozen? ⟨w.heap.size, 0, none⟩ = false := (block_cell' hx 0).2
  have f1 : u.frozen? ⟨w.heap.size, 1, none⟩ = false := (block_cell' hx 1).2
  obtain ⟨c0, -⟩ := two_box HU.out.blk
  obtain ⟨d0, -, -⟩ := HU.out.row.cells
  simp only [List.length_nil] at d0
  have HM := Lib.hid (qMade_any u HU.out)
  clear hb hx
  go_wp2_with fail
  refine HM.out.mono ?_
  rintro e w1 ⟨rfl, rfl⟩
  go_wp2
  have hset : Keeps (fun k => k = w.heap.size) u ((u.setCell ⟨w.heap.size, 0, none⟩ (.int .i64 0)).setCell ⟨w.heap.size, 1, none⟩ (.int .i64 0)) := ((Keeps.refl (fun k => k = w.heap.size) u).setCell (p := ⟨w.heap.size, 0, none⟩) rfl _).setCell (p := ⟨w.heap.size, 1, none⟩) rfl _
  have hb2 : ((u.setCell ⟨w.heap.size, 0, none⟩ (.int .i64 0)).setCell ⟨w.heap.size, 1, none⟩ (.int .i64 0)).heap[w.heap.size]? = some (.cells #[.int .i64 0, .int .i64 0] 30 (0, 0)) := block_setCell' (block_setCell' HX.out)
  obtain ⟨q0, q1⟩ := two_box hb2
  exact bodyPost_ret (v := .tuple #[.agg #[.int .i64 0, .int .i64 0], .bool false]) (by simp [results, Try.f28, go_sem, q0, q1]) rfl ⟨rfl, Below.keeps HB.out hset (Nat.le_refl _)⟩
end Go.Proofs.Ytcpcgpanmoellaa
