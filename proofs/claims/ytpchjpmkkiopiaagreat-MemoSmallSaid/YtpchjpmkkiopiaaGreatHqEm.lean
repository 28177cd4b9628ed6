import Derived.Test.YtpchjpmkkiopiaaGreatHpKm
namespace Go.Proofs.YtpchjpmkkiopiaaGreat
open Go.RowKit Go.Lib

/-- a queue. -/
structure QuIs [Watch] (base : Nat) (w : World) (qb r m : Nat) (t : Int) (lv : Value) (L : List En) : Prop where
  blk : w.heap[qb]? = some (.cells #[.pointer (some ⟨r, 0, none⟩), .int .i64 t] 113 (0, 0))
  row : RowIs base w r m lv L
  hp : Hp (pos L) L.length
  trn : ∀ e ∈ L, e.turn < t
  bq : base ≤ qb
theorem QuIs.later [Watch] {base : Nat} {w w' : World} {qb r m : Nat} {t : Int} {lv : Value} {L : List En} (h : QuIs base w qb r m t lv L) (hb : Below w.heap.size w w') : QuIs base w' qb r m t lv L :=
  ⟨(hb.block _ (lt_of_block h.blk)).trans h.blk, h.row.later hb, h.hp, h.trn, h.bq⟩
set_option maxHeartbeats 400000 in
theorem qMade_any [Watch] {base : Nat} {qb r m : Nat} {t : Int} {lv : Value} {L : List En} (w : World) (h : QuIs base w qb r m t lv L) : Calls Tryz.prog 68 #[.pointer (some ⟨qb, 0, none⟩)] w fun e w' => e = .returned (.bool true) ∧ w = w' := by
  obtain ⟨c0, -⟩ := two_box h.blk
  clear h
  go_enter Tryz.func68, Tryz.ntmps68
  go_wp2
  go_ret
  exact ⟨rfl, rfl⟩
set_option maxHeartbeats 1000000 in
theorem qHas_any [Watch] {base : Nat} {qb r m : Nat} {t : Int} {lv : Value} {L : List En} (x : Int) (w : World) (h : QuIs base w qb r m t lv L) (hx : (kx x).wf = true) :
    Calls Tryz.prog 69 #[.pointer (some ⟨qb, 0, none⟩), .int .i64 x] w fun e w' => ∃ c, e = .returned (.tuple #[.int .i64 c, .bool (whr L x).isSome]) ∧ (∀ i : Nat, whr L x = some i → c = i) ∧ w = w' := by
  have HM := Lib.hid (qMade_any w h)
  obtain ⟨c0, -⟩ := two_box h.blk
  obtain ⟨-, d1, -⟩ := h.row.cells
  obtain ⟨c, hl, hc⟩ := h.row.fn.look hx
  have HC := Lib.hid hc
  obtain ⟨b, hb⟩ : ∃ b, b = (whr L x).isSome := ⟨_, rfl⟩
  rw [← hb] at hl ⊢
  clear h hc hb
  go_enter Tryz.func69, Tryz.ntmps69
  go_wp2_with fail
  refine HM.out.mono ?_
  rintro e w1 ⟨rfl, rfl⟩
  go_wp2
  refine bodyPost_ret (v := .tuple #[.int .i64 c, .bool b]) (by simp [results, Tryz.f69, go_sem]) rfl ?_
  exact ⟨c, rfl, HC.out, rfl⟩
end Go.Proofs.YtpchjpmkkiopiaaGreat
namespace Go.Proofs.YtpchjpmkkiopiaaGreat
open Go.RowKit Go.Lib

set_option maxHeartbeats 400000 in
theorem qLen_any [Watch] {base : Nat} {qb r m : Nat} {t : Int} {lv : Value} {L : List En} (w : World) (h : QuIs base w qb r m t lv L) : Calls Tryz.prog 113 #[.pointer (some ⟨qb, 0, none⟩)] w fun e w' => e = .returned (.int .i64 L.length) ∧ w = w' := by
  have HM := Lib.hid (qMade_any w h)
  have HL := Lib.hid (rLen_any w h.row)
  obtain ⟨c0, -⟩ := two_box h.blk
  obtain ⟨n, hn⟩ : ∃ n, n = L.length := ⟨_, rfl⟩
  rw [← hn] at HL ⊢
  clear h hn
  go_enter Tryz.func113, Tryz.ntmps113
  go_wp2_with fail
  refine HM.out.mono ?_
  rintro e w1 ⟨rfl, rfl⟩
  go_wp2_with fail
  refine HL.out.mono ?_
  rintro e w1 ⟨rfl, rfl⟩
  go_wp2
  go_ret
  exact ⟨rfl, rfl⟩
end Go.Proofs.YtpchjpmkkiopiaaGreat
namespace Go.Proofs.YtpchjpmkkiopiaaGreat
open Go.RowKit Go.Lib

set_option maxRecDepth 100000 in
set_option maxHeartbeats 1000000 in
theorem qFirst_any [Watch] {base : Nat} {qb r m : Nat} {t : Int} {lv : Value} {L : List En} (w : World) (h : QuIs base w qb r m t lv L) (h0 : 0 < L.length) :
    Calls Tryz.prog 54 #[.pointer (some ⟨qb, 0, none⟩)] w fun e w' => e = .returned (.tuple #[.agg #[.int .i64 (pos L 0).key, .int .i64 (pos L 0).name], .bool true]) ∧ Below w.heap.size w w' := by
  have H := Lib.hid h
  have hle := h.row.le
  obtain ⟨n, hn⟩ : ∃ n, n = L.length := ⟨_, rfl⟩
  have HN := Lib.hid hn
  have hn0 : 0 < n := by omega
  have hn1 : (0 : Int) < (n : Int) := by omega
  have hn2 : ((n : Int) == 0) = false := by simp; omega
  have hn3 : decide ((n : Int) = 0) = false := by simp; omega
  have hn4 : decide (n = 0) = false := by simp; omega
  have H0 := Lib.hid h0
  obtain ⟨g, cap, rfl⟩ := own_shape h.row.row h0
  clear h hn h0 hle
  go_enter Tryz.func54, Tryz.ntmps54
  go_upto_region 1 with (fail)
  refine gen_world (S := fun u => Below w.heap.size w u ∧ u.heap[w.heap.size]? = some (.cells #[.int .i64 0, .int .i64 0] 118 (0, 0))) (one_new w _) (fun u hu => ?_)
  obtain ⟨hb, hx⟩ := hu
  have HU := Lib.hid (H.out.later hb)
  have HB := Lib.hid hb
  have HX := Lib.hid hx
  obtain ⟨x0, x1⟩ := two_box hx
  have f0 : u.frozen? ⟨w.heap.size, 0, none⟩ = false := (block_cell' hx 0).2
  have f1 : u.frozen? ⟨w.heap.size, 1, none⟩ = false := (block_cell' hx 1).2
  obtain ⟨c0, -⟩ := two_box HU.out.blk
  obtain ⟨d0, -, -⟩ := HU.out.row.cells
  rw [← HN.out] at d0
  obtain ⟨⟨a0, a1, -⟩, -⟩ := row3 HU.out.row.row 0 H0.out
  simp only [Nat.zero_mul, Nat.zero_add] at a0 a1
  have HM := Lib.hid (qMade_any u HU.out)
  clear hb hx
  go_wp2_with fail
  refine HM.out.mono ?_
  rintro e w1 ⟨rfl, rfl⟩
  go_wp2
  have hset : Keeps (fun k => k = w.heap.size) u ((u.setCell ⟨w.heap.size, 0, none⟩ (.int .i64 (pos L 0).key)).setCell ⟨w.heap.size, 1, none⟩ (.int .i64 (pos L 0).name)) := ((Keeps.refl (fun k => k = w.heap.size) u).setCell (p := ⟨w.heap.size, 0, none⟩) rfl _).setCell (p := ⟨w.heap.size, 1, none⟩) rfl _
  have hb2 : ((u.setCell ⟨w.heap.size, 0, none⟩ (.int .i64 (pos L 0).key)).setCell ⟨w.heap.size, 1, none⟩ (.int .i64 (pos L 0).name)).heap[w.heap.size]? = some (.cells #[.int .i64 (pos L 0).key, .int .i64 (pos L 0).name] 118 (0, 0)) := block_setCell' (block_setCell' HX.out)
  obtain ⟨q0, q1⟩ := two_box hb2
  exact bodyPost_ret (v := .tuple #[.agg #[.int .i64 (pos L 0).key, .int .i64 (pos L 0).name], .bool true]) (by simp [results, Tryz.f54, go_sem, q0, q1]) rfl ⟨rfl, Below.keeps HB.out hset (Nat.le_refl _)⟩
end Go.Proofs.YtpchjpmkkiopiaaGreat
namespace Go.Proofs.YtpchjpmkkiopiaaGreat
open Go.RowKit Go.Lib

set_option maxRecDepth 100000 in
set_option maxHeartbeats 1000000 in
theorem qFirst0_any [Watch] {base : Nat} {qb r m : Nat} {t : Int} {lv : Value} (w : World) (h : QuIs base w qb r m t lv []) :
    Calls Tryz.prog 54 #[.pointer (some ⟨qb, 0, none⟩)] w fun e w' => e = .returned (.tuple #[.agg #[.int .i64 0, .int .i64 0], .bool false]) ∧ Below w.heap.size w w' := by
  have H := Lib.hid h
  obtain ⟨vo, vc, rfl⟩ := own_val h.row.row
  clear h
  go_enter Tryz.func54, Tryz.ntmps54
  go_upto_region 1 with (fail)
  refine gen_world (S := fun u => Below w.heap.size w u ∧ u.heap[w.heap.size]? = some (.cells #[.int .i64 0, .int .i64 0] 118 (0, 0))) (one_new w _) (fun u hu => ?_)
  obtain ⟨hb, hx⟩ := hu
  have HU := Lib.hid (H.out.later hb)
  have HB := Lib.hid hb
  have HX := Lib.hid hx
  obtain ⟨x0, x1⟩ := two_box hx
  have f0 : u.frozen? ⟨w.heap.size, 0, none⟩ = false := (block_cell' hx 0).2
  have f1 : u.frozen? ⟨w.heap.size, 1, none⟩ = false := (block_cell' hx 1).2
  obtain ⟨c0, -⟩ := two_box HU.out.blk
  obtain ⟨d0, -, -⟩ := HU.out.row.cells
  simp only [List.length_nil] at d0
  have HM := Lib.hid (qMade_any u HU.out)
  clear hb hx
  go_wp2_with fail
  refine HM.out.mono ?_
  rintro e w1 ⟨rfl, rfl⟩
  go_wp2
  have hset : Keeps (fun k => k = w.heap.size) u ((u.setCell ⟨w.heap.size, 0, none⟩ (.int .i64 0)).setCell ⟨w.heap.size, 1, none⟩ (.int .i64 0)) := ((Keeps.refl (fun k => k = w.heap.size) u).setCell (p := ⟨w.heap.size, 0, none⟩) rfl _).setCell (p := ⟨w.heap.size, 1, none⟩) rfl _
  have hb2 : ((u.setCell ⟨w.heap.size, 0, none⟩ (.int .i64 0)).setCell ⟨w.heap.size, 1, none⟩ (.int .i64 0)).heap[w.heap.size]? = some (.cells #[.int .i64 0, .int .i64 0] 118 (0, 0)) := block_setCell' (block_setCell' HX.out)
  obtain ⟨q0, q1⟩ := two_box hb2
  exact bodyPost_ret (v := .tuple #[.agg #[.int .i64 0, .int .i64 0], .bool false]) (by simp [results, Tryz.f54, go_sem, q0, q1]) rfl ⟨rfl, Below.keeps HB.out hset (Nat.le_refl _)⟩
end Go.Proofs.YtpchjpmkkiopiaaGreat
