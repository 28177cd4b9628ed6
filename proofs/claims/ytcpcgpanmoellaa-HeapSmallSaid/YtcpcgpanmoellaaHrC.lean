/-
  A queue in memory, by its list of things: the first is taken.
-/
import Derived.Test.YtcpcgpanmoellaaHrB
namespace Go.Proofs.Ytcpcgpanmoellaa
open Go.RowKit Go.Lib

set_option maxRecDepth 100000 in
set_option maxHeartbeats 2000000 in
theorem quTake0 [Watch] {base : Nat} {q : Nat} {t : Int} (w : World) (h : Qu base w q t []) :
    Calls Try.prog 13 #[.pointer (some ⟨q, 0, none⟩)] w fun e w' => e = .returned (.tuple #[.agg #[.int .i64 0, .int .i64 0], .bool false]) ∧ Below w.heap.size w w' := by
  have H := Lib.hid h
  clear h
  go_enter Try.func13, Try.ntmps13
  go_upto_region 1 with (fail)
  refine gen_world (S := fun u => Below w.heap.size w u ∧ u.heap[w.heap.size]? = some (.cells #[.int .i64 0, .int .i64 0] 30 (0, 0))) (one_new w _) (fun u hu => ?_)
  obtain ⟨hb, hx⟩ := hu
  have HU := Lib.hid (H.out.later hb)
  have HB := Lib.hid hb
  have HX := Lib.hid hx
  clear hb hx
  go_wp2_with fail
  refine (quFirst0 u HU.out).mono ?_
  rintro e w1 ⟨rfl, hb1⟩
  have HX1 := Lib.hid ((hb1.block _ (lt_of_block HX.out)).trans HX.out)
  have f0 : w1.frozen? ⟨w.heap.size, 0, none⟩ = false := (block_cell' HX1.out 0).2
  have f1 : w1.frozen? ⟨w.heap.size, 1, none⟩ = false := (block_cell' HX1.out 1).2
  obtain ⟨x0, x1⟩ := two_box HX1.out
  have hlt := lt_of_block HX1.out
  have HB1 := Lib.hid hb1
  clear hb1
  go_wp2
  have hset : Keeps (fun k => k = w.heap.size) w1 ((w1.setCell ⟨w.heap.size, 0, none⟩ (.int .i64 0)).setCell ⟨w.heap.size, 1, none⟩ (.int .i64 0)) := ((Keeps.refl (fun k => k = w.heap.size) _).setCell (p := ⟨w.heap.size, 0, none⟩) rfl _).setCell (p := ⟨w.heap.size, 1, none⟩) rfl _
  have hb2 : (((w1.setCell ⟨w.heap.size, 0, none⟩ (.int .i64 0)).setCell ⟨w.heap.size, 1, none⟩ (.int .i64 0)).alloc (.cells #[.int .i64 0, .int .i64 0] 30)).heap[w.heap.size]? = some (.cells #[.int .i64 0, .int .i64 0] 30 (0, 0)) := (Below.heap_alloc _ _ _ (Nat.lt_of_lt_of_le hlt hset.size)).trans (block_setCell' (block_setCell' HX1.out))
  obtain ⟨q0, q1⟩ := two_box hb2
  have hsz := hset.size
  have hB := Below.keeps (HB.out.trans (HB1.out.mono HB.out.size)) hset (Nat.le_refl _)
  exact bodyPost_ret (v := .tuple #[.agg #[.int .i64 0, .int .i64 0], .bool false]) (by simp [results, Try.f13, go_sem, q0, q1]) rfl ⟨rfl, hB.alloc hB.size _⟩
set_option maxRecDepth 100000 in
set_option maxHeartbeats 2000000 in
theorem quTake [Watch] {base : Nat} {q : Nat} {t : Int} {M : List En} (w : World) (h : Qu base w q t M) (h0 : M ≠ []) :
    Calls Try.prog 13 #[.pointer (some ⟨q, 0, none⟩)] w fun en w' => ∃ e, FirstN M e ∧ en = .returned (.tuple #[.agg #[.int .i64 e.key, .int .i64 e.name], .bool true]) ∧ Qu base w' q t (dropN M e.name) ∧ KeepQ base q w w' := by
  have HTrn := Lib.hid h.trn
  obtain ⟨⟨r, m, lv, L, h1, h2⟩, h3⟩ := h
  have hl : 0 < L.length := by
    rw [h2.length_eq]
    exact List.length_pos_iff.2 h0
  have HF := Lib.hid (first_least h2 h1.hp hl)
  obtain ⟨n, hn⟩ : ∃ n, L.length = n + 1 := ⟨L.length - 1, by omega⟩
  have H := Lib.hid h1
  have Hn := Lib.hid hn
  have Hl := Lib.hid hl
  have H2 := Lib.hid h2
  obtain ⟨e, he⟩ : ∃ e, e = pos L 0 := ⟨_, rfl⟩
  have HEq := Lib.hid he
  clear h0 h1 h2 h3 hl hn he
  go_enter Try.func13, Try.ntmps13
  go_upto_region 1 with (fail)
  refine gen_world (S := fun u => Below w.heap.size w u ∧ u.heap[w.heap.size]? = some (.cells #[.int .i64 0, .int .i64 0] 30 (0, 0))) (one_new w _) (fun u hu => ?_)
  obtain ⟨hb, hx⟩ := hu
  have HU := Lib.hid (H.out.later hb)
  have HB := Lib.hid hb
  have HX := Lib.hid hx
  clear hb hx
  have hF := qFirst_any u HU.out Hl.out
  rw [← HEq.out] at hF
  have HFi := Lib.hid hF
  clear hF
  go_wp2_with fail
  refine HFi.out.mono ?_
  rintro en w1 ⟨rfl, hb1⟩
  have HX1 := Lib.hid ((hb1.block _ (lt_of_block HX.out)).trans HX.out)
  have HQ1 := Lib.hid (HU.out.later hb1)
  obtain ⟨c0, -⟩ := two_box HQ1.out.blk
  have hlt := lt_of_block HX1.out
  have hltq := lt_of_block HQ1.out.blk
  have HB1 := Lib.hid hb1
  clear hb1
  go_wp2_with fail
  refine (hPop_any (n := n) _ ((HQ1.out.row).later ((Below.refl _ _).alloc (Nat.le_refl _) _)) HQ1.out.hp Hn.out).mono ?_
  rw [← HEq.out]
  rintro en w4 ⟨rfl, lv', L2, hr, hh, hp, hk, -⟩
  have hX4 := hk.cells (k := w.heap.size) ((Below.heap_alloc _ _ _ hlt).trans HX1.out) (by decide)
  have hY4 := hk.cells (k := w1.heap.size) (heap_alloc_new w1 _) (by decide)
  have hQ4 := hk.cells (k := q) ((Below.heap_alloc _ _ _ hltq).trans HQ1.out.blk) (by decide)
  have HX4 := Lib.hid hX4
  have HQ4 := Lib.hid hQ4
  have HR4 := Lib.hid hr
  have HK4 := Lib.hid hk
  have HH4 := Lib.hid hh
  have HP4 := Lib.hid hp
  obtain ⟨y0, y1⟩ := two_box hY4
  obtain ⟨x0, x1⟩ := two_box hX4
  have f0 : w4.frozen? ⟨w.heap.size, 0, none⟩ = false := (block_cell' hX4 0).2
  have f1 : w4.frozen? ⟨w.heap.size, 1, none⟩ = false := (block_cell' hX4 1).2
  clear hX4 hY4 hQ4 hr hh hp hk c0 hlt hltq
  go_wp2
  have hset : Keeps (fun k => k = w.heap.size) w4 ((w4.setCell ⟨w.heap.size, 0, none⟩ (.int .i64 e.key)).setCell ⟨w.heap.size, 1, none⟩ (.int .i64 e.name)) := ((Keeps.refl (fun k => k = w.heap.size) w4).setCell (p := ⟨w.heap.size, 0, none⟩) rfl _).setCell (p := ⟨w.heap.size, 1, none⟩) rfl _
  have hb2 : ((w4.setCell ⟨w.heap.size, 0, none⟩ (.int .i64 e.key)).setCell ⟨w.heap.size, 1, none⟩ (.int .i64 e.name)).heap[w.heap.size]? = some (.cells #[.int .i64 e.key, .int .i64 e.name] 30 (0, 0)) := block_setCell' (block_setCell' HX4.out)
  obtain ⟨q0, q1⟩ := two_box hb2
  refine bodyPost_ret (v := .tuple #[.agg #[.int .i64 e.key, .int .i64 e.name], .bool true]) (by simp [results, Try.f13, go_sem, q0, q1]) rfl ⟨e, by rw [HEq.out]; exact HF.out, rfl, ⟨⟨r, m, lv', L2, ?_, ?_⟩, HTrn.out.drop _⟩, ?_⟩
  · have hne : ∀ k cs tt, w4.heap[k]? = some (.cells cs tt (0, 0)) → tt ≠ 30 → ¬ k = w.heap.size := fun k cs tt h ht e => by
      rw [e, HX4.out] at h
      simp at h
      exact ht h.2.symm
    have hm : m ≠ w.heap.size := fun e => by
      obtain ⟨D, ⟨es, clock, h1, -⟩, -⟩ := HR4.out.fn
      rw [e, HX4.out] at h1
      simp at h1
    refine ⟨hset.obj HQ4.out (hne _ _ _ HQ4.out (by decide)), ⟨hset.obj HR4.out.blk (hne _ _ _ HR4.out.blk (by decide)), row_kept HR4.out.row hset (fun k cs h => hne _ _ _ h (by decide)), HR4.out.fn.keeps hset hm, HR4.out.once, HR4.out.wf, HR4.out.br, HR4.out.bm, HR4.out.le, HR4.out.nr, HR4.out.nm, HR4.out.nl, Nat.le_trans HR4.out.lim hset.size⟩, HH4.out, fun a ha => ?_, HQ1.out.bq⟩
    exact HQ1.out.trn a (HP4.out.mem_iff.1 (List.mem_append_left _ ha))
  · exact drop_perm HTrn.out.once (HP4.out.trans H2.out)
  · have h4 : KeepH base w w4 := KeepH.trans (KeepH.ofBelow (((HB.out.trans (HB1.out.mono HB.out.size))).alloc (Nat.le_trans HB.out.size HB1.out.size) _)) HK4.out
    exact KeepQ.ofH (Keeps.set_new h4 hset (Nat.le_refl _))
end Go.Proofs.Ytcpcgpanmoellaa
