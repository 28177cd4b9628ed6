import Derived.Test.YtcpcgpanmoellaaItCm
import Derived.Test.YtcpcgpanmoellaaItDm
namespace Go.Proofs.Ytcpcgpanmoellaa
open Go.RowKit Go.Lib

/-- a queue whose blocks stand ahead of C. -/
def QuB [Watch] (base C : Nat) (w : World) (q : Nat) (t : Int) (M : List En) : Prop :=
  ∃ r m lv L, QuIs base w q r m t lv L ∧ L.Perm M ∧ Trn t M ∧ q < C ∧ r < C ∧ m < C ∧ ∀ k, lv.ownBlock = some k → k < C
theorem QuB.qu [Watch] {base C : Nat} {w : World} {q : Nat} {t : Int} {M : List En} (h : QuB base C w q t M) : Qu base w q t M := by
  obtain ⟨r, m, lv, L, h1, h2, h3, -⟩ := h
  exact ⟨⟨r, m, lv, L, h1, h2⟩, h3⟩
theorem Qu.quB [Watch] {base : Nat} {w : World} {q : Nat} {t : Int} {M : List En} (h : Qu base w q t M) : QuB base w.heap.size w q t M := by
  obtain ⟨⟨r, m, lv, L, h1, h2⟩, h3⟩ := h
  exact ⟨r, m, lv, L, h1, h2, h3, lt_of_block h1.blk, lt_of_block h1.row.blk, h1.row.fn.lt, fun k hk => (h1.row.row.lt k hk).2⟩
theorem QuB.later [Watch] {base C : Nat} {w w' : World} {q : Nat} {t : Int} {M : List En} (h : QuB base C w q t M) (hb : Below w.heap.size w w') : QuB base C w' q t M := by
  obtain ⟨r, m, lv, L, h1, h2⟩ := h
  exact ⟨r, m, lv, L, h1.later hb, h2⟩
/-- under another watch. -/
theorem QuB.rewatch {J : Watch} {base C q : Nat} {w : World} {t : Int} {M : List En} (h : @QuB J base C w q t M) (I : Watch) (h1 : ∀ k, k < C → ¬ I.W k) (h2 : I.lim ≤ w.heap.size) : @QuB I base C w q t M := by
  obtain ⟨r, m, lv, L, g1, g2, g3, c1, c2, c3, c4⟩ := h
  obtain ⟨q1, ⟨p1, p2, p3, p4, p5, p6, p7, p8, -, -, -, -⟩, q3, q4, q5⟩ := g1
  exact ⟨r, m, lv, L, ⟨q1, ⟨p1, p2, p3, p4, p5, p6, p7, p8, h1 _ c2, h1 _ c3, fun k hk => h1 k (c4 k hk), h2⟩, q3, q4, q5⟩, g2, g3, c1, c2, c3, c4⟩
set_option maxRecDepth 100000 in
set_option maxHeartbeats 2000000 in
theorem quTakeB [Watch] {base C : Nat} {q : Nat} {t : Int} {M : List En} (w : World) (h : QuB base C w q t M) (h0 : M ≠ []) :
    Calls Try.prog 13 #[.pointer (some ⟨q, 0, none⟩)] w fun en w' => ∃ e, FirstN M e ∧ en = .returned (.tuple #[.agg #[.int .i64 e.key, .int .i64 e.name], .bool true]) ∧ QuB base C w' q t (dropN M e.name) ∧ KeepQ base q w w' := by
  obtain ⟨r, m, lv, L, h1, h2, h3, hC⟩ := h
  have HTrn := Lib.hid h3
  have HC := Lib.hid hC
  clear hC
  have hl : 0 < L.length := by
    rw [h2.length_eq]
    exact List.length_pos_iff.2 h0
  have HF := Lib.hid (first_least h2 h1.hp hl)
  obtain ⟨n, hn⟩ : ∃ n, L.length = n + 1 := ⟨L.length - 1, by omega⟩
  have H := Lib.hid h1
  have Hn := Lib.hid hn
  have Hl := Lib.hid hl
  have H2 := Lib.hid h2
  obtain ⟨e, he⟩ : ∃ e, e = pos L 0 := ⟨_, rfl⟩
  have HEq := Lib.hid he
  clear h0 h1 h2 h3 hl hn he
  go_enter Try.func13, Try.ntmps13
  go_upto_region 1 with (fail)
  refine gen_world (S := fun u => Below w.heap.size w u ∧ u.heap[w.heap.size]? = some (.cells #[.int .i64 0, .int .i64 0] 30 (0, 0))) (one_new w _) (fun u hu => ?_)
  obtain ⟨hb, hx⟩ := hu
  have HU := Lib.hid (H.out.later hb)
  have HB := Lib.hid hb
  have HX := Lib.hid hx
  clear hb hx
  have hF := qFirst_any u HU.out Hl.out
  rw [← HEq.out] at hF
  have HFi := Lib.hid hF
  clear hF
  go_wp2_with fail
  refine HFi.out.mono ?_
  rintro en w1 ⟨rfl, hb1⟩
  have HX1 := Lib.hid ((hb1.block _ (lt_of_block HX.out)).trans HX.out)
  have HQ1 := Lib.hid (HU.out.later hb1)
  obtain ⟨c0, -⟩ := two_box HQ1.out.blk
  have hlt := lt_of_block HX1.out
  have hltq := lt_of_block HQ1.out.blk
  have HB1 := Lib.hid hb1
  clear hb1
  go_wp2_with fail
  refine (hPop_any (n := n) _ ((HQ1.out.row).later ((Below.refl _ _).alloc (Nat.le_refl _) _)) HQ1.out.hp Hn.out).mono ?_
  rw [← HEq.out]
  rintro en w4 ⟨rfl, lv', L2, hr, hh, hp, hk, hob⟩
  have HOB := Lib.hid hob
  clear hob
  have hX4 := hk.cells (k := w.heap.size) ((Below.heap_alloc _ _ _ hlt).trans HX1.out) (by decide)
  have hY4 := hk.cells (k := w1.heap.size) (heap_alloc_new w1 _) (by decide)
  have hQ4 := hk.cells (k := q) ((Below.heap_alloc _ _ _ hltq).trans HQ1.out.blk) (by decide)
  have HX4 := Lib.hid hX4
  have HQ4 := Lib.hid hQ4
  have HR4 := Lib.hid hr
  have HK4 := Lib.hid hk
  have HH4 := Lib.hid hh
  have HP4 := Lib.hid hp
  obtain ⟨y0, y1⟩ := two_box hY4
  obtain ⟨x0, x1⟩ := two_box hX4
  have f0 : w4.frozen? ⟨w.heap.size, 0, none⟩ = false := (block_cell' hX4 0).2
  have f1 : w4.frozen? ⟨w.heap.size, 1, none⟩ = false := (block_cell' hX4 1).2
  clear hX4 hY4 hQ4 hr hh hp hk c0 hlt hltq
  go_wp2
  have hset : Keeps (fun k => k = w.heap.size) w4 ((w4.setCell ⟨w.heap.size, 0, none⟩ (.int .i64 e.key)).setCell ⟨w.heap.size, 1, none⟩ (.int .i64 e.name)) := ((Keeps.refl (fun k => k = w.heap.size) w4).setCell (p := ⟨w.heap.size, 0, none⟩) rfl _).setCell (p := ⟨w.heap.size, 1, none⟩) rfl _
  have hb2 : ((w4.setCell ⟨w.heap.size, 0, none⟩ (.int .i64 e.key)).setCell ⟨w.heap.size, 1, none⟩ (.int .i64 e.name)).heap[w.heap.size]? = some (.cells #[.int .i64 e.key, .int .i64 e.name] 30 (0, 0)) := block_setCell' (block_setCell' HX4.out)
  obtain ⟨q0, q1⟩ := two_box hb2
  refine bodyPost_ret (v := .tuple #[.agg #[.int .i64 e.key, .int .i64 e.name], .bool true]) (by simp [results, Try.f13, go_sem, q0, q1]) rfl ⟨e, by rw [HEq.out]; exact HF.out, rfl, ⟨r, m, lv', L2, ?_, ?_, HTrn.out.drop _, HC.out.1, HC.out.2.1, HC.out.2.2.1, fun k hk => HC.out.2.2.2 k (by rw [← HOB.out]; exact hk)⟩, ?_⟩
  · have hne : ∀ k cs tt, w4.heap[k]? = some (.cells cs tt (0, 0)) → tt ≠ 30 → ¬ k = w.heap.size := fun k cs tt h ht e => by
      rw [e, HX4.out] at h
      simp at h
      exact ht h.2.symm
    have hm : m ≠ w.heap.size := fun e => by
      obtain ⟨D, ⟨es, clock, h1, -⟩, -⟩ := HR4.out.fn
      rw [e, HX4.out] at h1
      simp at h1
    refine ⟨hset.obj HQ4.out (hne _ _ _ HQ4.out (by decide)), ⟨hset.obj HR4.out.blk (hne _ _ _ HR4.out.blk (by decide)), row_kept HR4.out.row hset (fun k cs h => hne _ _ _ h (by decide)), HR4.out.fn.keeps hset hm, HR4.out.once, HR4.out.wf, HR4.out.br, HR4.out.bm, HR4.out.le, HR4.out.nr, HR4.out.nm, HR4.out.nl, Nat.le_trans HR4.out.lim hset.size⟩, HH4.out, fun a ha => ?_, HQ1.out.bq⟩
    exact HQ1.out.trn a (HP4.out.mem_iff.1 (List.mem_append_left _ ha))
  · exact drop_perm HTrn.out.once (HP4.out.trans H2.out)
  · have h4 : KeepH base w w4 := KeepH.trans (KeepH.ofBelow (((HB.out.trans (HB1.out.mono HB.out.size))).alloc (Nat.le_trans HB.out.size HB1.out.size) _)) HK4.out
    exact KeepQ.ofH (Keeps.set_new h4 hset (Nat.le_refl _))
end Go.Proofs.Ytcpcgpanmoellaa
namespace Go.Proofs.Ytcpcgpanmoellaa
open Go.RowKit Go.Lib

/-- nil, or a queue that was never made. -/
def Unm (w : World) (p : Option Addr) : Prop := p = none ∨ ∃ z, p = some ⟨z, 0, none⟩ ∧ w.heap[z]? = some (.cells #[.pointer none, .int .i64 0] 64 (0, 0))
theorem Unm.later {w w' : World} {p : Option Addr} (h : Unm w p) (hb : Below w.heap.size w w') : Unm w' p := by
  rcases h with rfl | ⟨z, rfl, hz⟩
  · exact .inl rfl
  · exact .inr ⟨z, rfl, (hb.block _ (lt_of_block hz)).trans hz⟩
theorem uMade (p : Option Addr) (w : World) (h : Unm w p) : Calls Try.prog 23 #[.pointer p] w fun e w' => e = .returned (.bool false) ∧ w = w' := by
  rcases h with rfl | ⟨z, rfl, hz⟩
  · go_enter Try.func23, Try.ntmps23
    go_wp2
    go_ret
    exact ⟨rfl, rfl⟩
  · obtain ⟨c0, -⟩ := two_box hz
    clear hz
    go_enter Try.func23, Try.ntmps23
    go_wp2
    go_ret
    exact ⟨rfl, rfl⟩
theorem uHas (x : Int) (p : Option Addr) (w : World) (h : Unm w p) : Calls Try.prog 24 #[.pointer p, .int .i64 x] w fun e w' => e = .returned (.tuple #[.int .i64 0, .bool false]) ∧ w = w' := by
  have HM := Lib.hid (uMade p w h)
  clear h
  go_enter Try.func24, Try.ntmps24
  go_wp2_with fail
  refine HM.out.mono ?_
  rintro e w1 ⟨rfl, rfl⟩
  go_wp2
  exact bodyPost_ret (v := .tuple #[.int .i64 0, .bool false]) (by simp [results, Try.f24, go_sem]) rfl ⟨rfl, rfl⟩
theorem uLen (p : Option Addr) (w : World) (h : Unm w p) : Calls Try.prog 15 #[.pointer p] w fun e w' => e = .returned (.int .i64 0) ∧ w = w' := by
  have HM := Lib.hid (uMade p w h)
  clear h
  go_enter Try.func15, Try.ntmps15
  go_wp2_with fail
  refine HM.out.mono ?_
  rintro e w1 ⟨rfl, rfl⟩
  go_wp2
  go_ret
  exact ⟨rfl, rfl⟩
theorem uKey (x : Int) (p : Option Addr) (w : World) (h : Unm w p) : Calls Try.prog 14 #[.pointer p, .int .i64 x] w fun e w' => e = .returned (.tuple #[.int .i64 0, .bool false]) ∧ w = w' := by
  have HM := Lib.hid (uHas x p w h)
  clear h
  go_enter Try.func14, Try.ntmps14
  go_wp2_with fail
  refine HM.out.mono ?_
  rintro e w1 ⟨rfl, rfl⟩
  go_wp2
  exact bodyPost_ret (v := .tuple #[.int .i64 0, .bool false]) (by simp [results, Try.f14, go_sem]) rfl ⟨rfl, rfl⟩
theorem uDrop (x : Int) (p : Option Addr) (w : World) (h : Unm w p) : Calls Try.prog 11 #[.pointer p, .int .i64 x] w fun e w' => e = .returned (.bool false) ∧ w = w' := by
  have HM := Lib.hid (uHas x p w h)
  clear h
  go_enter Try.func11, Try.ntmps11
  go_wp2_with fail
  refine HM.out.mono ?_
  rintro e w1 ⟨rfl, rfl⟩
  go_wp2
  go_ret
  exact ⟨rfl, rfl⟩
theorem uMove (x k : Int) (p : Option Addr) (w : World) (h : Unm w p) : Calls Try.prog 12 #[.pointer p, .int .i64 x, .int .i64 k] w fun e w' => e = .returned (.int .i64 1) ∧ w = w' := by
  have HH := Lib.hid (uHas x p w h)
  have HM := Lib.hid (uMade p w h)
  clear h
  go_enter Try.func12, Try.ntmps12
  go_wp2_with fail
  refine HH.out.mono ?_
  rintro e w1 ⟨rfl, rfl⟩
  go_wp2_with fail
  refine HM.out.mono ?_
  rintro e w1 ⟨rfl, rfl⟩
  go_wp2
  go_ret
  exact ⟨rfl, rfl⟩
theorem uPut (v : Value) (p : Option Addr) (w : World) (h : Unm w p) : Calls Try.prog 9 #[.pointer p, v] w fun e w' => e = .returned (.int .i64 1) ∧ w = w' := by
  have HM := Lib.hid (uMade p w h)
  clear h
  go_enter Try.func9, Try.ntmps9
  go_wp2_with fail
  refine HM.out.mono ?_
  rintro e w1 ⟨rfl, rfl⟩
  go_wp2
  go_ret
  exact ⟨rfl, rfl⟩
theorem uCopy (p : Option Addr) (w : World) (h : Unm w p) : Calls Try.prog 20 #[.pointer p] w fun e w' => e = .returned (.pointer none) ∧ w = w' := by
  have HM := Lib.hid (uMade p w h)
  clear h
  go_enter Try.func20, Try.ntmps20
  go_wp2_with fail
  refine HM.out.mono ?_
  rintro e w1 ⟨rfl, rfl⟩
  go_wp2
  go_ret
  exact ⟨rfl, rfl⟩
set_option maxRecDepth 100000 in
set_option maxHeartbeats 1000000 in
theorem uFirst (p : Option Addr) (w : World) (h : Unm w p) :
    Calls Try.prog 28 #[.pointer p] w fun e w' => e = .returned (.tuple #[.agg #[.int .i64 0, .int .i64 0], .bool false]) ∧ Below w.heap.size w w' := by
  have H := Lib.hid h
  clear h
  go_enter Try.func28, Try.ntmps28
  go_upto_region 1 with (fail)
  refine gen_world (S := fun u => Below w.heap.size w u ∧ u.heap[w.heap.size]? = some (.cells #[.int .i64 0, .int .i64 0] 30 (0, 0))) (one_new w _) (fun u hu => ?_)
  obtain ⟨hb, hx⟩ := hu
  have HB := Lib.hid hb
  have HX := Lib.hid hx
  obtain ⟨x0, x1⟩ := two_box hx
  have f0 : u.frozen? ⟨w.heap.size, 0, none⟩ = false := (block_cell' hx 0).2
  have f1 : u.frozen? ⟨w.heap.size, 1, none⟩ = false := (block_cell' hx 1).2
  have HM := Lib.hid (uMade p u (H.out.later hb))
  clear hb hx
  go_wp2_with fail
  refine HM.out.mono ?_
  rintro e w1 ⟨rfl, rfl⟩
  go_wp2
  have hset : Keeps (fun k => k = w.heap.size) u ((u.setCell ⟨w.heap.size, 0, none⟩ (.int .i64 0)).setCell ⟨w.heap.size, 1, none⟩ (.int .i64 0)) := ((Keeps.refl (fun k => k = w.heap.size) u).setCell (p := ⟨w.heap.size, 0, none⟩) rfl _).setCell (p := ⟨w.heap.size, 1, none⟩) rfl _
  have hb2 : ((u.setCell ⟨w.heap.size, 0, none⟩ (.int .i64 0)).setCell ⟨w.heap.size, 1, none⟩ (.int .i64 0)).heap[w.heap.size]? = some (.cells #[.int .i64 0, .int .i64 0] 30 (0, 0)) := block_setCell' (block_setCell' HX.out)
  obtain ⟨q0, q1⟩ := two_box hb2
  exact bodyPost_ret (v := .tuple #[.agg #[.int .i64 0, .int .i64 0], .bool false]) (by simp [results, Try.f28, go_sem, q0, q1]) rfl ⟨rfl, Below.keeps HB.out hset (Nat.le_refl _)⟩
set_option maxRecDepth 100000 in
set_option maxHeartbeats 2000000 in
theorem uTake (p : Option Addr) (w : World) (h : Unm w p) :
    Calls Try.prog 13 #[.pointer p] w fun e w' => e = .returned (.tuple #[.agg #[.int .i64 0, .int .i64 0], .bool false]) ∧ Below w.heap.size w w' := by
  have H := Lib.hid h
  clear h
  go_enter Try.func13, Try.ntmps13
  go_upto_region 1 with (fail)
  refine gen_world (S := fun u => Below w.heap.size w u ∧ u.heap[w.heap.size]? = some (.cells #[.int .i64 0, .int .i64 0] 30 (0, 0))) (one_new w _) (fun u hu => ?_)
  obtain ⟨hb, hx⟩ := hu
  have HU := Lib.hid (H.out.later hb)
  have HB := Lib.hid hb
  have HX := Lib.hid hx
  clear hb hx
  go_wp2_with fail
  refine (uFirst p u HU.out).mono ?_
  rintro e w1 ⟨rfl, hb1⟩
  have HX1 := Lib.hid ((hb1.block _ (lt_of_block HX.out)).trans HX.out)
  have f0 : w1.frozen? ⟨w.heap.size, 0, none⟩ = false := (block_cell' HX1.out 0).2
  have f1 : w1.frozen? ⟨w.heap.size, 1, none⟩ = false := (block_cell' HX1.out 1).2
  obtain ⟨x0, x1⟩ := two_box HX1.out
  have hlt := lt_of_block HX1.out
  have HB1 := Lib.hid hb1
  clear hb1
  go_wp2
  have hset : Keeps (fun k => k = w.heap.size) w1 ((w1.setCell ⟨w.heap.size, 0, none⟩ (.int .i64 0)).setCell ⟨w.heap.size, 1, none⟩ (.int .i64 0)) := ((Keeps.refl (fun k => k = w.heap.size) _).setCell (p := ⟨w.heap.size, 0, none⟩) rfl _).setCell (p := ⟨w.heap.size, 1, none⟩) rfl _
  have hb2 : (((w1.setCell ⟨w.heap.size, 0, none⟩ (.int .i64 0)).setCell ⟨w.heap.size, 1, none⟩ (.int .i64 0)).alloc (.cells #[.int .i64 0, .int .i64 0] 30)).heap[w.heap.size]? = some (.cells #[.int .i64 0, .int .i64 0] 30 (0, 0)) := (Below.heap_alloc _ _ _ (Nat.lt_of_lt_of_le hlt hset.size)).trans (block_setCell' (block_setCell' HX1.out))
  obtain ⟨q0, q1⟩ := two_box hb2
  have hsz := hset.size
  have hB := Below.keeps (HB.out.trans (HB1.out.mono HB.out.size)) hset (Nat.le_refl _)
  exact bodyPost_ret (v := .tuple #[.agg #[.int .i64 0, .int .i64 0], .bool false]) (by simp [results, Try.f13, go_sem, q0, q1]) rfl ⟨rfl, hB.alloc hB.size _⟩
end Go.Proofs.Ytcpcgpanmoellaa
namespace Go.Proofs.Ytcpcgpanmoellaa
open Go.RowKit Go.Lib

theorem own_itw {w : World} {base n : Nat} {v : Value} {l : List (Int × Int)} (hn : n = l.length) (h : w.ownsRow base 30 2 v n (l.flatMap ite)) (hwf : ∀ x ∈ l, (kx x.2).wf = true) : ItW w v l := by
  subst hn
  refine ⟨?_, hwf⟩
  rcases h.2 with ⟨rfl, h0⟩ | ⟨g, cap, cur, rfl, _, hg, hnc, hcm, hcs, ht⟩
  · have : l = [] := List.eq_nil_of_length_eq_zero h0
    subst this
    exact ⟨none, 0, 0, 0, rfl, Nat.le_refl _, by unfold maxLen; omega, fun _ => ⟨rfl, rfl⟩, fun h => by simp at h, fun e he => by simp at he, fun i hi => by simp at hi⟩
  · refine ⟨_, g, 0, cap, by simp, by simpa using hnc, hcm, (fun h => by cases h), fun _ => ⟨rfl, lt_of_block hg⟩, fun e he => ?_, fun i hi j hj => ?_⟩
    · obtain ⟨x, -, rfl⟩ := List.mem_map.1 he
      rfl
    · have hi' : i < l.length := by simpa using hi
      rw [List.getElem_map, (block_cell' hg _).1, ← flat_get ite_len l i j hi' hj, Nat.zero_add, ← ht, List.getElem?_take_of_lt (by omega)]
      simp
theorem ddc_len (d : Dd) : (ddc d).length = 3 := rfl
theorem blk_ddw {w : World} {b : Nat} {l : List Dd} {t : TypeId} (h : w.heap[b]? = some (.cells (l.flatMap ddc).toArray t (0, 0))) (hok : ∀ d ∈ l, DdOk d) (hl : l.length ≤ maxLen) : DdW w (.slice (some ⟨b, 0, none⟩) l.length l.length) l := by
  refine ⟨⟨_, b, 0, l.length, by simp, by simp, hl, (fun h => by cases h), fun _ => ⟨rfl, lt_of_block h⟩, fun e he => ?_, fun i hi j hj => ?_⟩, hok⟩
  · obtain ⟨x, -, rfl⟩ := List.mem_map.1 he
    rfl
  · have hi' : i < l.length := by simpa using hi
    rw [List.getElem_map, (block_cell' h _).1, ← flat_get ddc_len l i j hi' hj, Nat.zero_add]
    simp
theorem blk4 {w : World} {b : Nat} {a0 b0 c0 a1 b1 c1 a2 b2 c2 a3 b3 c3 : Int} (h : w.heap[b]? = some (.cells #[.int .i64 a0, .int .i64 b0, .int .i64 c0, .int .i64 a1, .int .i64 b1, .int .i64 c1, .int .i64 a2, .int .i64 b2, .int .i64 c2, .int .i64 a3, .int .i64 b3, .int .i64 c3] 54 (0, 0))) (hok : ∀ d ∈ ([⟨a0, b0, c0⟩, ⟨a1, b1, c1⟩, ⟨a2, b2, c2⟩, ⟨a3, b3, c3⟩] : List Dd), DdOk d) : DdW w (.slice (some ⟨b, 0, none⟩) 4 4) [⟨a0, b0, c0⟩, ⟨a1, b1, c1⟩, ⟨a2, b2, c2⟩, ⟨a3, b3, c3⟩] :=
  blk_ddw (l := [⟨a0, b0, c0⟩, ⟨a1, b1, c1⟩, ⟨a2, b2, c2⟩, ⟨a3, b3, c3⟩]) h hok (by unfold maxLen; simp)
theorem blk8 {w : World} {b : Nat} {a0 b0 c0 a1 b1 c1 a2 b2 c2 a3 b3 c3 a4 b4 c4 a5 b5 c5 a6 b6 c6 a7 b7 c7 : Int} (h : w.heap[b]? = some (.cells #[.int .i64 a0, .int .i64 b0, .int .i64 c0, .int .i64 a1, .int .i64 b1, .int .i64 c1, .int .i64 a2, .int .i64 b2, .int .i64 c2, .int .i64 a3, .int .i64 b3, .int .i64 c3, .int .i64 a4, .int .i64 b4, .int .i64 c4, .int .i64 a5, .int .i64 b5, .int .i64 c5, .int .i64 a6, .int .i64 b6, .int .i64 c6, .int .i64 a7, .int .i64 b7, .int .i64 c7] 54 (0, 0))) (hok : ∀ d ∈ ([⟨a0, b0, c0⟩, ⟨a1, b1, c1⟩, ⟨a2, b2, c2⟩, ⟨a3, b3, c3⟩, ⟨a4, b4, c4⟩, ⟨a5, b5, c5⟩, ⟨a6, b6, c6⟩, ⟨a7, b7, c7⟩] : List Dd), DdOk d) : DdW w (.slice (some ⟨b, 0, none⟩) 8 8) [⟨a0, b0, c0⟩, ⟨a1, b1, c1⟩, ⟨a2, b2, c2⟩, ⟨a3, b3, c3⟩, ⟨a4, b4, c4⟩, ⟨a5, b5, c5⟩, ⟨a6, b6, c6⟩, ⟨a7, b7, c7⟩] :=
  blk_ddw (l := [⟨a0, b0, c0⟩, ⟨a1, b1, c1⟩, ⟨a2, b2, c2⟩, ⟨a3, b3, c3⟩, ⟨a4, b4, c4⟩, ⟨a5, b5, c5⟩, ⟨a6, b6, c6⟩, ⟨a7, b7, c7⟩]) h hok (by unfold maxLen; simp)
theorem blk10 {w : World} {b : Nat} {a0 b0 c0 a1 b1 c1 a2 b2 c2 a3 b3 c3 a4 b4 c4 a5 b5 c5 a6 b6 c6 a7 b7 c7 a8 b8 c8 a9 b9 c9 : Int} (h : w.heap[b]? = some (.cells #[.int .i64 a0, .int .i64 b0, .int .i64 c0, .int .i64 a1, .int .i64 b1, .int .i64 c1, .int .i64 a2, .int .i64 b2, .int .i64 c2, .int .i64 a3, .int .i64 b3, .int .i64 c3, .int .i64 a4, .int .i64 b4, .int .i64 c4, .int .i64 a5, .int .i64 b5, .int .i64 c5, .int .i64 a6, .int .i64 b6, .int .i64 c6, .int .i64 a7, .int .i64 b7, .int .i64 c7, .int .i64 a8, .int .i64 b8, .int .i64 c8, .int .i64 a9, .int .i64 b9, .int .i64 c9] 54 (0, 0))) (hok : ∀ d ∈ ([⟨a0, b0, c0⟩, ⟨a1, b1, c1⟩, ⟨a2, b2, c2⟩, ⟨a3, b3, c3⟩, ⟨a4, b4, c4⟩, ⟨a5, b5, c5⟩, ⟨a6, b6, c6⟩, ⟨a7, b7, c7⟩, ⟨a8, b8, c8⟩, ⟨a9, b9, c9⟩] : List Dd), DdOk d) : DdW w (.slice (some ⟨b, 0, none⟩) 10 10) [⟨a0, b0, c0⟩, ⟨a1, b1, c1⟩, ⟨a2, b2, c2⟩, ⟨a3, b3, c3⟩, ⟨a4, b4, c4⟩, ⟨a5, b5, c5⟩, ⟨a6, b6, c6⟩, ⟨a7, b7, c7⟩, ⟨a8, b8, c8⟩, ⟨a9, b9, c9⟩] :=
  blk_ddw (l := [⟨a0, b0, c0⟩, ⟨a1, b1, c1⟩, ⟨a2, b2, c2⟩, ⟨a3, b3, c3⟩, ⟨a4, b4, c4⟩, ⟨a5, b5, c5⟩, ⟨a6, b6, c6⟩, ⟨a7, b7, c7⟩, ⟨a8, b8, c8⟩, ⟨a9, b9, c9⟩]) h hok (by unfold maxLen; simp)
end Go.Proofs.Ytcpcgpanmoellaa
namespace Go.Proofs.Ytcpcgpanmoellaa
open Go.RowKit Go.Lib Go.Shelf
attribute [local go_sem] Oper.semAt_some

theorem range_skip {α : Type} {P : Program} {g : Operand} {p : Tmp} {body : Code} {Q : Exit → Act → World → Prop} {a : Act} {w : World} {n : Nat} (h1 : 1 ≤ n) {gf : Nat} {lb : Array Value} (hg : a.eval g = .func (.func gf) #[] lb) (eg : ∀ args w, (callFunc gf args).run P w = .ok (.enter gf args) w)
    (enc : α → Value) {Kp : World → World → Prop} {S Sp : List α → Prop} {N : Nat} (hseq : SeqStopsK Fence.wide (n - 1) P gf lb (fun x => #[enc x]) Kp S Sp N w)
    (hKr : ∀ A : World, Kp A A) (hKt : ∀ {A B C : World}, Kp A B → Kp B C → Kp A C) (hKb : ∀ (W : World) (l : Nat) (o o' : Obj), w.heap.size ≤ l → W.heap[l]? = some o → o.isCells = false → o.isWalk = false → Kp W (W.putObj l o'))
    (I : List α → World → Prop) (Ix : Code → List α → World → Prop) (hI : OwnFrom w.heap.size I) (hIx : ∀ c, OwnFrom w.heap.size (Ix c)) (h0 : I [] w)
    (hbody : ∀ (l : Nat) (pre : List α) (x : α) (W : World), w.heap.size ≤ l → I pre W → pre.length < N →
      body.wpIn (Fence.wide.inRound l) (n - 1 - 1) P (ownPostG w.heap.size Kp I Ix (pre ++ [x]) W) { tmps := a.tmps.setIfInBounds p (enc x), defers := [] } W)
    (hdone : ∀ (D : Nat) (xs : List α) (W : World), w.heap.size ≤ D → S xs → I xs W → W.heap[D]? = some (.deferred (some [])) → Q .normal { a with defers := { target := .collected D, args := #[] } :: a.defers } W)
    (hstop : ∀ (D : Nat) (c : Code) (pre : List α) (W : World), w.heap.size ≤ D → Sp pre → Ix c pre W → W.heap[D]? = some (.deferred (some [])) → c.wpIn Fence.wide n P Q { a with defers := { target := .collected D, args := #[] } :: a.defers } W) :
    (Code.rangeFunc g #[p] .skip body).wpIn Fence.wide n P Q a w := by
  refine wpIn_rangeFunc_ownH rfl h1 hg trivial eg hseq hKt hKb (Below.refl _ _) (fun _ => rfl) I Ix hI hIx h0
    (fun x a' W => a' = { tmps := a.tmps.setIfInBounds p (enc x), defers := [] })
    (fun x a' => Own.from (fun s X Y row hs hg hrow => hs) _)
    ?_ ?_ hdone hstop
  · intro l pre x W K hi hK
    rw [fold1]
    have hk := hK { tmps := a.tmps.setIfInBounds p (enc x), defers := [] } W (KeepsFrom.refl _ _) ?_ hi rfl
    · gi_wp2
      exact hk
    · exact hKr _
  · rintro l pre x a' W hl - hi rfl hlen
    exact hbody l pre x W hl hi hlen
set_option maxRecDepth 100000 in
set_option maxHeartbeats 2000000 in
theorem uall_stops (n : Nat) (hn : 5 ≤ n) (Bq : Nat) (p : Option Addr) (w : World) (tp : TypeId) (Kp : World → World → Prop) (hBq : w.heap[Bq]? = some (.cells #[.pointer p] tp (0, 0))) (h : Unm w p) :
    SeqStopsK Fence.wide n Try.prog 31 #[.pointer (some ⟨Bq, 0, none⟩)] (fun x : En => #[itv x]) Kp (fun ys => ys = []) (fun _ => False) 0 w := fun l J Jx W hW hJ _ hY h0 => by
  have h1n : 1 ≤ n := by omega
  have HM := Lib.hid (uMade p W (h.later hW))
  have hb0 : W.cell? ⟨Bq, 0, none⟩ = some (.pointer p) := (block_cell' ((hW.block _ (lt_of_block hBq)).trans hBq) 0).1
  clear hY h hBq
  refine callsIn_of_wp Try.func31 rfl trivial ?_ rfl
  simp only [Try.ntmps31, List.size_toArray, List.length_cons, List.length_nil, Nat.reduceAdd, Nat.reduceSub, Array.replicate_succ, Array.replicate_zero, List.push_toArray, List.append_toArray, List.nil_append, List.cons_append]
  gi_wp2_with (refine ⟨trivial, ?_⟩; gi_at_call 23; refine (callsIn_wide.2 HM.out).mono ?_; rintro e w' ⟨rfl, rfl⟩)
  gi_wp2
  refine bodyPost_ret (results_none rfl _ _ _) rfl ?_
  exact ⟨⟨_, rfl⟩, .inl ⟨[], rfl, h0⟩⟩
end Go.Proofs.Ytcpcgpanmoellaa
