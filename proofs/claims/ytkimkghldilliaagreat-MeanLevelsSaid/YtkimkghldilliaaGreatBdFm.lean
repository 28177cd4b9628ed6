import Derived.Test.YtkimkghldilliaaGreatMnOm
namespace Go.Proofs.YtkimkghldilliaaGreat
open Go.RowKit Go.Lib

theorem nbox9 {w : World} {b : Nat} {x0 x1 x2 x3 x4 x5 x6 x7 x8 : Value} {t : TypeId} (h : w.heap[b]? = some (.cells #[x0, x1, x2, x3, x4, x5, x6, x7, x8] t (0, 0))) : w.cell? ⟨b, 0, none⟩ = some x0 ∧ w.cell? ⟨b, 1, none⟩ = some x1 ∧ w.cell? ⟨b, 2, none⟩ = some x2 ∧ w.cell? ⟨b, 3, none⟩ = some x3 ∧ w.cell? ⟨b, 4, none⟩ = some x4 ∧ w.cell? ⟨b, 5, none⟩ = some x5 ∧ w.cell? ⟨b, 6, none⟩ = some x6 ∧ w.cell? ⟨b, 7, none⟩ = some x7 ∧ w.cell? ⟨b, 8, none⟩ = some x8 := ⟨(block_cell' h 0).1, (block_cell' h 1).1, (block_cell' h 2).1, (block_cell' h 3).1, (block_cell' h 4).1, (block_cell' h 5).1, (block_cell' h 6).1, (block_cell' h 7).1, (block_cell' h 8).1⟩
theorem nine_frz {w : World} {b : Nat} {x0 x1 x2 x3 x4 x5 x6 x7 x8 : Value} {t : TypeId} (h : w.heap[b]? = some (.cells #[x0, x1, x2, x3, x4, x5, x6, x7, x8] t (0, 0))) : w.frozen? ⟨b, 0, none⟩ = false ∧ w.frozen? ⟨b, 1, none⟩ = false ∧ w.frozen? ⟨b, 2, none⟩ = false ∧ w.frozen? ⟨b, 3, none⟩ = false ∧ w.frozen? ⟨b, 4, none⟩ = false ∧ w.frozen? ⟨b, 5, none⟩ = false ∧ w.frozen? ⟨b, 6, none⟩ = false ∧ w.frozen? ⟨b, 7, none⟩ = false ∧ w.frozen? ⟨b, 8, none⟩ = false := ⟨(block_cell' h 0).2, (block_cell' h 1).2, (block_cell' h 2).2, (block_cell' h 3).2, (block_cell' h 4).2, (block_cell' h 5).2, (block_cell' h 6).2, (block_cell' h 7).2, (block_cell' h 8).2⟩
theorem setL {w : World} {b k : Nat} {l : List Value} {y : Value} {t : TypeId} (h : w.heap[b]? = some (.cells (List.toArray l) t (0, 0))) : (w.setCell ⟨b, k, none⟩ y).heap[b]? = some (.cells (List.toArray (l.set k y)) t (0, 0)) := by
  have := block_setCell' (k := k) (u := y) h
  simpa using this
set_option maxHeartbeats 1000000 in
theorem set9 {w : World} {b : Nat} {x0 x1 x2 x3 x4 x5 x6 x7 x8 : Value} {t : TypeId} (h : w.heap[b]? = some (.cells #[x0, x1, x2, x3, x4, x5, x6, x7, x8] t (0, 0))) (y0 y1 y2 y3 y4 y5 y6 y7 y8 : Value) :
    (((((((((w.setCell ⟨b, 0, none⟩ y0).setCell ⟨b, 1, none⟩ y1).setCell ⟨b, 2, none⟩ y2).setCell ⟨b, 3, none⟩ y3).setCell ⟨b, 4, none⟩ y4).setCell ⟨b, 5, none⟩ y5).setCell ⟨b, 6, none⟩ y6).setCell ⟨b, 7, none⟩ y7).setCell ⟨b, 8, none⟩ y8).heap[b]? = some (.cells #[y0, y1, y2, y3, y4, y5, y6, y7, y8] t (0, 0)) ∧ Keeps (· = b) w (((((((((w.setCell ⟨b, 0, none⟩ y0).setCell ⟨b, 1, none⟩ y1).setCell ⟨b, 2, none⟩ y2).setCell ⟨b, 3, none⟩ y3).setCell ⟨b, 4, none⟩ y4).setCell ⟨b, 5, none⟩ y5).setCell ⟨b, 6, none⟩ y6).setCell ⟨b, 7, none⟩ y7).setCell ⟨b, 8, none⟩ y8) := by
  have h9 := setL (k := 8) (y := y8) (setL (k := 7) (y := y7) (setL (k := 6) (y := y6) (setL (k := 5) (y := y5) (setL (k := 4) (y := y4) (setL (k := 3) (y := y3) (setL (k := 2) (y := y2) (setL (k := 1) (y := y1) (setL (k := 0) (y := y0) (h)))))))))
  refine ⟨?_, (((((((((Keeps.refl (fun k => k = b) w).setCell (p := ⟨b, 0, none⟩) rfl _).setCell (p := ⟨b, 1, none⟩) rfl _).setCell (p := ⟨b, 2, none⟩) rfl _).setCell (p := ⟨b, 3, none⟩) rfl _).setCell (p := ⟨b, 4, none⟩) rfl _).setCell (p := ⟨b, 5, none⟩) rfl _).setCell (p := ⟨b, 6, none⟩) rfl _).setCell (p := ⟨b, 7, none⟩) rfl _).setCell (p := ⟨b, 8, none⟩) rfl _⟩
  simpa only [List.set_cons_zero, List.set_cons_succ] using h9
set_option maxRecDepth 100000 in
set_option maxHeartbeats 1000000 in
theorem copyInts_any {t : List Int} (v : Value) (w : World) (h : CellsAt w v (iv t)) (hl : t.length ≤ 1000000) :
    Calls Tryz.prog 163 #[v] w fun en w' => ∃ v', en = .returned v' ∧ w'.ownsRow w.heap.size 3 1 v' t.length (iv t) ∧ Below w.heap.size w w' := by
  obtain ⟨ao, b, off, cap, rfl, hlc, hcm, hnil, hao, h1, hc⟩ := h
  have Hnews := Lib.hid (cells_news hao hc)
  have hlen : (iv t).length = t.length := by simp [iv]
  rw [hlen] at hnil hlc ⊢
  have HIv := Lib.hid hlen
  obtain ⟨n, hn⟩ : ∃ n, n = t.length := ⟨_, rfl⟩
  rw [← hn] at hl hnil hlc HIv ⊢
  have Hnil := Lib.hid hnil
  have HO1 := Lib.hid h1
  clear hao hc hlen hn hnil h1
  obtain ⟨i0, hi0, hz0, hz1, hz2⟩ := info_parts Tryz.infoInt
  go_enter Tryz.func163, Tryz.ntmps163
  go_wp2_with (at_builtin; refine wpList_append_mine _ rfl (.tmp 4) (.tmp 5) 52 rfl w.heap.size 3 i0 _ 1 8 Tryz.underlying52 hi0 hz0 hz1 hz2 rfl (by decide) _ 0 [] rfl (World.ownsRow_nil _ _ _ _) ao n cap (iv t) rfl (by rw [HIv.out]; omega) (fun h => Hnil.out h) Hnews.out HO1.out (by unfold maxLen; omega) (by omega) (Nat.le_refl _) ?_; intro v' w3 hown hgrow hblk)
  have HO := Lib.hid (show w3.ownsRow w.heap.size 3 1 v' n (iv t) by simpa using hown)
  have HB := Lib.hid (show Below w.heap.size w w3 from (Below.refl _ _).grown hgrow (Nat.le_refl _) (fun k hk => by cases hk))
  clear hown hgrow hblk
  go_wp2
  go_ret
  exact ⟨_, rfl, HO.out, HB.out⟩
set_option maxRecDepth 100000 in
set_option maxHeartbeats 2000000 in
theorem copyNode_any (x : Nd) (w : World) (h : CellsAt w x.kv (iv x.kids)) (hl : x.kids.length ≤ 1000000) :
    Calls Tryz.prog 145 #[ndv x] w fun en w' => ∃ v', en = .returned (ndv { x with kv := v' }) ∧ w'.ownsRow w.heap.size 3 1 v' x.kids.length (iv x.kids) ∧ Below w.heap.size w w' := by
  obtain ⟨kind, c0, c1, c2, c3, text, rule, level, kids, kv⟩ := x
  simp only at h hl
  have HC := Lib.hid (fun wq (hb : Below w.heap.size w wq) => copyInts_any kv wq (h.later hb) hl)
  obtain ⟨ao, b, off, cap, rfl, -⟩ := h
  unfold ndv
  simp only
  have hlen : (iv kids).length = kids.length := by simp [iv]
  rw [hlen] at HC ⊢
  obtain ⟨kn, hkn⟩ : ∃ kn, kn = kids.length := ⟨_, rfl⟩
  rw [← hkn] at HC ⊢
  clear hlen hkn hl
  go_enter Tryz.func145, Tryz.ntmps145
  go_upto_region 1 with (fail)
  refine gen_world (S := fun u => Below w.heap.size w u ∧ u.heap[w.heap.size]? = some (.cells #[.int .i64 kind, .int .u64 c0, .int .u64 c1, .int .u64 c2, .int .u64 c3, .string text, .int .i64 rule, .int .i64 level, .slice ao kn cap] 60 (0, 0)) ∧ u.heap[w.heap.size + 1]? = some (.cells #[.int .i64 0, .int .u64 0, .int .u64 0, .int .u64 0, .int .u64 0, .string ⟨#[]⟩, .int .i64 0, .int .i64 0, .slice none 0 0] 60 (0, 0))) (two_new w _ _) (fun u hu => ?_)
  obtain ⟨hb, k1, k2⟩ := hu
  have HB := Lib.hid hb
  have K1 := Lib.hid k1
  have K2 := Lib.hid k2
  obtain ⟨d0, d1, d2, d3, d4, d5, d6, d7, d8⟩ := nbox9 k1
  clear hb k1 k2
  go_wp2_with fail
  refine (HC.out u HB.out).mono ?_
  rintro e z ⟨v', rfl, hown, hbz⟩
  obtain ⟨a', p', rfl⟩ := own_val hown
  have HOw := Lib.hid hown
  have HBz := Lib.hid (HB.out.trans (hbz.mono HB.out.size))
  have K1z := Lib.hid ((hbz.block _ (lt_of_block K1.out)).trans K1.out)
  have K2z := Lib.hid ((hbz.block _ (lt_of_block K2.out)).trans K2.out)
  have HSz := Lib.hid (lt_of_block K2.out)
  clear hown hbz HC d0 d1 d2 d3 d4 d5 d6 d7 d8
  obtain ⟨d0, d1, d2, d3, d4, d5, d6, d7, d8⟩ := nbox9 K1z.out
  obtain ⟨g0, g1, g2, g3, g4, g5, g6, g7, g8⟩ := nine_frz K1z.out
  go_upto_region 2 with (fail)
  have k8 := block_setCell' (k := 8) (u := .slice a' kn p') K1z.out
  have hk8 := (Keeps.refl (fun k => k = w.heap.size) z).setCell (p := ⟨w.heap.size, 8, none⟩) rfl (.slice a' kn p')
  refine gen_world (S := fun y => y.heap[w.heap.size]? = some (.cells #[.int .i64 kind, .int .u64 c0, .int .u64 c1, .int .u64 c2, .int .u64 c3, .string text, .int .i64 rule, .int .i64 level, (.slice a' kn p')] 60 (0, 0)) ∧ Keeps (· = w.heap.size) z y) ⟨k8, hk8⟩ (fun y hy => ?_)
  obtain ⟨k1, hky⟩ := hy
  clear k8 hk8 d0 d1 d2 d3 d4 d5 d6 d7 d8 g0 g1 g2 g3 g4 g5 g6 g7 g8
  have hby := Keeps.one_below hky HBz.out.size (Nat.le_refl _)
  have HBy := Lib.hid (HBz.out.trans hby)
  have K2y := Lib.hid (hky.obj K2z.out (by omega))
  have HOy := Lib.hid (Keeps.row hky HOw.out (fun k hk hS => by have := (HOw.out.lt k hk).1; have := HSz.out; omega))
  obtain ⟨d0, d1, d2, d3, d4, d5, d6, d7, d8⟩ := nbox9 k1
  obtain ⟨e0, e1, e2, e3, e4, e5, e6, e7, e8⟩ := nbox9 K2y.out
  obtain ⟨g0, g1, g2, g3, g4, g5, g6, g7, g8⟩ := nine_frz K2y.out
  clear hky hby k1
  go_wp2
  obtain ⟨k9, hk9⟩ := set9 K2y.out (.int .i64 kind) (.int .u64 c0) (.int .u64 c1) (.int .u64 c2) (.int .u64 c3) (.string text) (.int .i64 rule) (.int .i64 level) (.slice a' kn p')
  obtain ⟨q0, q1, q2, q3, q4, q5, q6, q7, q8⟩ := nbox9 k9
  exact bodyPost_ret (v := .agg #[.int .i64 kind, .int .u64 c0, .int .u64 c1, .int .u64 c2, .int .u64 c3, .string text, .int .i64 rule, .int .i64 level, (.slice a' kn p')]) (by simp [results, Tryz.f145, go_sem, q0, q1, q2, q3, q4, q5, q6, q7, q8]) rfl ⟨_, rfl, ownsRow_base (Keeps.row hk9 HOy.out (fun k hk hS => by have := (HOw.out.lt k hk).1; have := HSz.out; omega)) HB.out.size, HBy.out.trans (Keeps.one_below hk9 HBy.out.size (by omega))⟩
end Go.Proofs.YtkimkghldilliaaGreat
namespace Go.Proofs.YtkimkghldilliaaGreat
open Go.RowKit Go.Lib

theorem Tryz.infoNode : (Tryz.prog.info? 60).map (fun i => (i.zero, i.size, i.bytes)) = some (some (.agg #[.int .i64 0, .int .u64 0, .int .u64 0, .int .u64 0, .int .u64 0, .string ⟨#[]⟩, .int .i64 0, .int .i64 0, .slice none 0 0]), 9, 96) := by kernel_rfl
def sk (x : Nd) : Nd := { x with kv := .slice none 0 0 }
theorem own_ne {w : World} {b1 b2 C1 C2 n1 n2 : Nat} {t1 t2 : TypeId} {v1 v2 : Value} {xs1 xs2 : List Value} (h1 : w.ownsRow b1 t1 C1 v1 n1 xs1) (h2 : w.ownsRow b2 t2 C2 v2 n2 xs2) (ht : t1 ≠ t2) : ∀ k, v1.ownBlock = some k → v2.ownBlock ≠ some k := by
  intro k e1 e2
  rcases h1.2 with ⟨rfl, -⟩ | ⟨g, cap, cur, rfl, -, hg, -⟩
  · cases e1
  rcases h2.2 with ⟨rfl, -⟩ | ⟨g2, cap2, cur2, rfl, -, hg2, -⟩
  · cases e2
  simp only [Value.ownBlock, Option.some.injEq] at e1 e2
  subst e1
  subst e2
  rw [hg] at hg2
  simp only [Option.some.injEq, Obj.cells.injEq] at hg2
  exact ht hg2.2.1
/-- nodes in memory of their own. -/
structure NsOwn (base : Nat) (w : World) (v : Value) (N : List Nd) : Prop where
  row : w.ownsRow base 60 9 v N.length (N.flatMap ndc)
  kid : ∀ x ∈ N, w.ownsRow base 3 1 x.kv x.kids.length (iv x.kids)
  apart : N.Pairwise fun a b => ∀ k, a.kv.ownBlock = some k → b.kv.ownBlock ≠ some k
def NsIn (w : World) (v : Value) (N : List Nd) : Prop := NdsAt w v N ∧ ∀ x ∈ N, CellsAt w x.kv (iv x.kids) ∧ x.kids.length ≤ 1000
theorem NsIn.later {w w' : World} {v : Value} {N : List Nd} (h : NsIn w v N) (hb : Below w.heap.size w w') : NsIn w' v N := ⟨RowsAt.later h.1 hb, fun x hx => ⟨(h.2 x hx).1.later hb, (h.2 x hx).2⟩⟩
theorem NsOwn.inn {base : Nat} {w : World} {v : Value} {N : List Nd} (h : NsOwn base w v N) (hk : ∀ x ∈ N, x.kids.length ≤ 1000) : NsIn w v N :=
  ⟨own_rows ndc_len rfl h.row, fun x hx => ⟨own_cells (iv_oneCell _) (h.kid x hx), hk x hx⟩⟩
theorem NsOwn.keeps {base : Nat} {w w' : World} {v : Value} {N : List Nd} {S : Nat → Prop} (h : NsOwn base w v N) (hk : Keeps S w w') (hr : ∀ k, v.ownBlock = some k → ¬ S k) (hx : ∀ x ∈ N, ∀ k, x.kv.ownBlock = some k → ¬ S k) : NsOwn base w' v N :=
  ⟨Keeps.row hk h.row hr, fun x hm => Keeps.row hk (h.kid x hm) (hx x hm), h.apart⟩
theorem NsOwn.later {base : Nat} {w w' : World} {v : Value} {N : List Nd} (h : NsOwn base w v N) (hb : Below w.heap.size w w') : NsOwn base w' v N :=
  h.keeps (Keeps.ofNew hb (fun _ => False)) (fun _ _ => id) (fun _ _ _ _ => id)
theorem NsOwn.base_le {base base' : Nat} {w : World} {v : Value} {N : List Nd} (h : NsOwn base w v N) (hb : base' ≤ base) : NsOwn base' w v N :=
  ⟨ownsRow_base h.row hb, fun x hx => ownsRow_base (h.kid x hx) hb, h.apart⟩
theorem NsOwn.nil (base : Nat) (w : World) : NsOwn base w (.slice none 0 0) [] := ⟨World.ownsRow_nil _ _ _ _, by simp, by simp⟩
/-- one more node. -/
theorem NsOwn.push {base : Nat} {w w1 : World} {v v' : Value} {N : List Nd} {x : Nd} (h : NsOwn base w v N) (hx : w.ownsRow base 3 1 x.kv x.kids.length (iv x.kids)) (hn : ∀ y ∈ N, ∀ k, y.kv.ownBlock = some k → x.kv.ownBlock ≠ some k)
    (hown : w1.ownsRow base 60 9 v' (N.length + 1) (N.flatMap ndc ++ ndc x)) (hg : w.grownBy w1 v.ownBlock) : NsOwn base w1 v' (N ++ [x]) := by
  have hk := keeps_grown hg
  refine ⟨?_, fun y hy => ?_, ?_⟩
  · simpa using hown
  · rcases List.mem_append.1 hy with hy | hy
    · exact Keeps.row hk (h.kid y hy) (fun k e e2 => own_ne (h.kid y hy) h.row (by decide) k e e2.symm)
    · simp only [List.mem_singleton] at hy
      subst hy
      exact Keeps.row hk hx (fun k e e2 => own_ne hx h.row (by decide) k e e2.symm)
  · refine List.pairwise_append.2 ⟨h.apart, by simp, fun a ha b hb => ?_⟩
    simp only [List.mem_singleton] at hb
    subst hb
    exact hn a ha
def NsPost (L : List Nd) (w : World) (e : Ending) (w' : World) : Prop := ∃ v' N', e = .returned v' ∧ N'.map sk = L.map sk ∧ NsOwn w.heap.size w' v' N' ∧ Below w.heap.size w w'
theorem ndc_one (x : Nd) (hx : x.kv.oneCell' = true) : ∀ u ∈ ndc x, u.oneCell' = true := by
  intro u hu
  simp only [ndc, List.mem_cons, List.not_mem_nil, or_false] at hu
  rcases hu with rfl | rfl | rfl | rfl | rfl | rfl | rfl | rfl | rfl
  all_goals first | rfl | exact hx
set_option maxRecDepth 100000 in
set_option maxHeartbeats 4000000 in
theorem copyNodes_any (v : Value) (N : List Nd) (w : World) (h : NsIn w v N) (hl : N.length ≤ 2048) :
    Calls Tryz.prog 114 #[v] w (NsPost N w) := by
  have H := Lib.hid h
  obtain ⟨ao, cap, hv⟩ := h.1.val
  rw [List.length_map] at hv
  subst hv
  obtain ⟨n, hn⟩ : ∃ n, n = N.length := ⟨_, rfl⟩
  have HN := Lib.hid hn
  have HH := Lib.hid (show ∀ (k : Nat), k < n → ∀ wq, Below w.heap.size w wq → ∃ x b off, N[k]? = some x ∧ ao = some ⟨b, off, none⟩ ∧ wq.cell? ⟨b, off + k * 9, none⟩ = some (.int .i64 x.kind) ∧ wq.cell? ⟨b, off + k * 9 + 1, none⟩ = some (.int .u64 x.c0) ∧ wq.cell? ⟨b, off + k * 9 + 2, none⟩ = some (.int .u64 x.c1) ∧ wq.cell? ⟨b, off + k * 9 + 3, none⟩ = some (.int .u64 x.c2) ∧ wq.cell? ⟨b, off + k * 9 + 4, none⟩ = some (.int .u64 x.c3) ∧ wq.cell? ⟨b, off + k * 9 + 5, none⟩ = some (.string x.text) ∧ wq.cell? ⟨b, off + k * 9 + 6, none⟩ = some (.int .i64 x.rule) ∧ wq.cell? ⟨b, off + k * 9 + 7, none⟩ = some (.int .i64 x.level) ∧ wq.cell? ⟨b, off + k * 9 + 8, none⟩ = some x.kv from fun k hk wq hb => by
    have hk2 : k < N.length := hn ▸ hk
    obtain ⟨b, off, e, -, hc⟩ := (show NdsAt wq (.slice ao N.length cap) N from RowsAt.later h.1 hb).cells.2.2.2 k hk2
    exact ⟨N[k], b, off, List.getElem?_eq_getElem hk2, e, hc⟩)
  rw [← hn] at H hl ⊢
  obtain ⟨i0, hi0, hz0, hz1, hz2⟩ := info_parts Tryz.infoNode
  clear h hn
  go_enter Tryz.func114, Tryz.ntmps114
  go_wp2
  go_loopw [3, 4] (fun out i wr => ∃ (k : Nat) (N' : List Nd), i = .int .i64 k ∧ k ≤ n ∧ Hid (N'.map sk = (N.take k).map sk) ∧ Hid (NsOwn w.heap.size wr out N') ∧ Hid (Below w.heap.size w wr)) (fun _ i _ => n - (intOf i).toNat)
  case atStart => exact ⟨0, [], rfl, Nat.zero_le _, Lib.hid (by simp), Lib.hid (NsOwn.nil _ _), Lib.hid (Below.refl _ _)⟩
  case round =>
    obtain ⟨k, N', rfl, hkn, HM, HO, HB⟩ := hrel
    by_cases hlt : k < n
    · have hlt2 : (k : Int) < n := by omega
      obtain ⟨x, b, off, hx, hao, v0, v1, v2, v3, v4, v5, v6, v7, v8⟩ := HH.out k hlt wr HB.out
      have HX := Lib.hid hx
      have hxm : x ∈ N := (List.getElem?_eq_some_iff.1 hx).2 ▸ List.getElem_mem (List.getElem?_eq_some_iff.1 hx).1
      have HC := Lib.hid (fun wq (hb : Below wr.heap.size wr wq) => copyNode_any x wq ((H.out.2 x hxm).1.later (HB.out.trans (hb.mono HB.out.size))) (by have := (H.out.2 x hxm).2; omega))
      unfold ndv at HC
      clear hx hxm
      subst hao
      go_wp2_with fail
      refine (HC.out wr (Below.refl _ _)).mono ?_
      rintro e z ⟨kv', rfl, hown, hbz⟩
      clear v0 v1 v2 v3 v4 v5 v6 v7 v8
      obtain ⟨a', p', rfl⟩ := own_val hown
      obtain ⟨kn, hkn⟩ : ∃ kn, kn = x.kids.length := ⟨_, rfl⟩
      have HOw := Lib.hid hown
      rw [← hkn] at HOw ⊢
      have HKn := Lib.hid hkn
      have HBz := Lib.hid (HB.out.trans (hbz.mono HB.out.size))
      have HOz := Lib.hid (HO.out.later hbz)
      have HWr := Lib.hid hbz
      clear hown hkn hbz
      simp only
      go_upto_region 6 with (fail)
      refine gen_world (S := fun y => Below z.heap.size z y ∧ y.heap[z.heap.size]? = some (.cells #[.int .i64 x.kind, .int .u64 x.c0, .int .u64 x.c1, .int .u64 x.c2, .int .u64 x.c3, .string x.text, .int .i64 x.rule, .int .i64 x.level, .slice a' kn p'] 60 (0, 0))) (one_new z _) (fun y hy => ?_)
      obtain ⟨hby, hcy⟩ := hy
      obtain ⟨d0, d1, d2, d3, d4, d5, d6, d7, d8⟩ := nbox9 hcy
      have HBy := Lib.hid (HBz.out.trans (hby.mono HBz.out.size))
      have HOy := Lib.hid (HOz.out.later hby)
      have HOwy := Lib.hid (Keeps.row (Keeps.ofNew hby (fun _ => False)) HOw.out (fun _ _ => id))
      obtain ⟨zc, hzc⟩ : ∃ zc, zc = z.heap.size := ⟨_, rfl⟩
      rw [← hzc] at d0 d1 d2 d3 d4 d5 d6 d7 d8 ⊢
      clear hby hcy hzc
      have hrow := HOy.out.row
      have hnl : N'.length = k := by
        have h1 := congrArg List.length HM.out
        simp only [List.length_map, List.length_take] at h1
        have := HN.out
        omega
      rw [hnl] at hrow
      have HNl := Lib.hid hnl
      have hsz := HBy.out.size
      clear hnl
      go_wp2_with (at_builtin; refine wpList_append_mine _ rfl (.tmp 17) (.tmp 19) 23 rfl w.heap.size 60 i0 _ 9 96 Tryz.underlying23 hi0 hz0 hz1 hz2 rfl (by decide) _ k _ rfl (hrow.alloc _) (some ⟨y.heap.size, 0, none⟩) 1 1 [.int .i64 x.kind, .int .u64 x.c0, .int .u64 x.c1, .int .u64 x.c2, .int .u64 x.c3, .string x.text, .int .i64 x.rule, .int .i64 x.level, .slice a' kn p'] rfl rfl (fun h => by cases h) (by intro ad had; simp only [Option.some.injEq] at had; subst had; exact World.news_of_block (t := 60) (fr := (0, 0)) (heap_alloc_new y _)) (ndc_one ⟨x.kind, x.c0, x.c1, x.c2, x.c3, x.text, x.rule, x.level, x.kids, .slice a' kn p'⟩ rfl) (by unfold maxLen; omega) (by omega) (by simp; omega) ?_; intro v' w1 hown' hgrow hblk)
      have HB1 := Lib.hid (HBy.out.trans (((Below.refl w.heap.size y).alloc hsz _).grown hgrow (by simp; omega) (fun r hr => (hrow.lt r hr).1)))
      have hal : Below y.heap.size y (y.alloc (.cells #[.int .i64 x.kind, .int .u64 x.c0, .int .u64 x.c1, .int .u64 x.c2, .int .u64 x.c3, .string x.text, .int .i64 x.rule, .int .i64 x.level, .slice a' kn p'] 60 (0, 0))) := (one_new y _).1
      have HP := Lib.hid (NsOwn.push (x := ⟨x.kind, x.c0, x.c1, x.c2, x.c3, x.text, x.rule, x.level, x.kids, .slice a' kn p'⟩) (HOy.out.later hal) (by have h1 := Keeps.row (Keeps.ofNew hal (fun _ => False)) HOwy.out (fun _ _ => id); simp only; rw [← HKn.out]; exact ownsRow_base h1 HB.out.size) (fun u hu kk e e2 => by have h1 := ((HO.out.kid u hu).lt kk e).2; have h2 := (HOw.out.lt kk e2).1; omega) (by rw [HNl.out]; exact hown') hgrow)
      clear hown' hgrow hblk hrow hal
      refine ⟨⟨k + 1, _, by go_num, by omega, Lib.hid ?_, HP, HB1⟩, by simp [intOf]; omega⟩
      rw [List.map_append, HM.out, List.take_add_one, HX.out]
      simp [sk]
    · have hlt2 : ¬ (k : Int) < n := by omega
      go_wp2
      go_ret
      have hk : k = n := by omega
      have := HM.out
      rw [hk, HN.out, List.take_length] at this
      exact ⟨_, N', rfl, this, HO.out, HB.out⟩
end Go.Proofs.YtkimkghldilliaaGreat
namespace Go.Proofs.YtkimkghldilliaaGreat
open Go.RowKit Go.Lib

def mvK (n : Int) (k : Nat) (ks : List Int) : List Int := (ks.take k).map (· + n) ++ ks.drop k
def mv (n : Int) (x : Nd) : Nd := { x with kids := x.kids.map (· + n) }
def mvN (n : Int) (k : Nat) (x : Nd) : Nd := { x with kids := mvK n k x.kids }
theorem mvK_zero (n : Int) (ks : List Int) : mvK n 0 ks = ks := by simp [mvK]
theorem mvK_full (n : Int) (ks : List Int) : mvK n ks.length ks = ks.map (· + n) := by simp [mvK]
theorem mvK_len (n : Int) (k : Nat) (ks : List Int) : (mvK n k ks).length = ks.length := by simp [mvK]; omega
theorem mvK_get (n : Int) : ∀ (k : Nat) (ks : List Int), (mvK n k ks)[k]? = ks[k]?
  | 0, ks => by simp [mvK]
  | k + 1, [] => by simp [mvK]
  | k + 1, a :: t => by have := mvK_get n k t; simpa [mvK] using this
theorem mvK_set (n : Int) : ∀ (k : Nat) (ks : List Int) (q : Int), ks[k]? = some q → (mvK n k ks).set k (q + n) = mvK n (k + 1) ks
  | 0, [], q, h => by simp at h
  | 0, a :: t, q, h => by simp at h; subst h; simp [mvK]
  | k + 1, [], q, h => by simp at h
  | k + 1, a :: t, q, h => by have := mvK_set n k t q (by simpa using h); simpa [mvK] using this
theorem flat_ndc_set : ∀ (N : List Nd) (i : Nat) (x : Nd) (ks : List Int), N[i]? = some x → (N.set i { x with kids := ks }).flatMap ndc = N.flatMap ndc
  | [], i, x, ks, h => by simp at h
  | y :: N, 0, x, ks, h => by simp at h; subst h; simp [ndc]
  | y :: N, i + 1, x, ks, h => by have := flat_ndc_set N i x ks (by simpa using h); simp [this]
/-- a kid is set. -/
theorem NsOwn.setKid {base : Nat} {w : World} {v : Value} {N : List Nd} (h : NsOwn base w v N) {i : Nat} {x : Nd} (hx : N[i]? = some x) {k kb cap m : Nat} (u : Int) (hv : x.kv = .slice (some ⟨kb, 0, none⟩) m cap) :
    NsOwn base (w.setCell ⟨kb, k, none⟩ (.int .i64 u)) v (N.set i { x with kids := x.kids.set k u }) ∧ Keeps (· = kb) w (w.setCell ⟨kb, k, none⟩ (.int .i64 u)) := by
  obtain ⟨hi, hxi⟩ := List.getElem?_eq_some_iff.1 hx
  have hxm : x ∈ N := hxi ▸ List.getElem_mem hi
  have hkx := h.kid x hxm
  have hK := (Keeps.refl (fun j => j = kb) w).setCell (p := ⟨kb, k, none⟩) rfl (.int .i64 u)
  have hob : x.kv.ownBlock = some kb := by rw [hv]; rfl
  refine ⟨⟨?_, fun y hy => ?_, ?_⟩, hK⟩
  · rw [flat_ndc_set N i x _ hx, List.length_set]
    exact Keeps.row hK h.row (fun j e e2 => own_ne h.row hkx (by decide) j e (e2 ▸ hob))
  · obtain ⟨j, hj, hyj⟩ := List.mem_iff_getElem.1 hy
    rw [List.getElem_set] at hyj
    split at hyj
    · subst hyj
      rename_i e
      simp only
      rw [hv] at hkx ⊢
      have h1 : m = x.kids.length := by
        have := own_val hkx
        obtain ⟨a, c, e⟩ := this
        simp only [Value.slice.injEq] at e
        exact e.2.1
      subst h1
      have h2 := World.ownsRow.stored hkx k (.int .i64 u)
      simp only [List.length_set]
      unfold iv
      rw [List.map_set]
      exact h2.1
    · rename_i e
      have hj2 : j < N.length := by simpa using hj
      have hym : y ∈ N := hyj ▸ List.getElem_mem hj2
      refine Keeps.row hK (h.kid y hym) (fun q e1 e2 => ?_)
      subst e2
      rcases Nat.lt_or_gt_of_ne e with hlt | hlt
      · exact (List.pairwise_iff_getElem.1 h.apart i j hi hj2 hlt) q (by rw [hxi]; exact hob) (by rw [hyj]; exact e1)
      · exact (List.pairwise_iff_getElem.1 h.apart j i hj2 hi hlt) q (by rw [hyj]; exact e1) (by rw [hxi]; exact hob)
  · rw [List.pairwise_iff_getElem]
    have hkv : ∀ (j : Nat) (hj : j < (N.set i { x with kids := x.kids.set k u }).length), ((N.set i { x with kids := x.kids.set k u })[j]).kv = (N[j]'(by simpa using hj)).kv := by
      intro j hj
      rw [List.getElem_set]
      split
      · rename_i e
        subst e
        simp only
        rw [hxi]
      · rfl
    intro a b ha hb hab
    rw [hkv a ha, hkv b hb]
    exact List.pairwise_iff_getElem.1 h.apart a b (by simpa using ha) (by simpa using hb) hab
theorem NsOwn.kidCell {base : Nat} {w : World} {ao : Option Addr} {n cap : Nat} {N : List Nd} (h : NsOwn base w (.slice ao n cap) N) {i : Nat} {z : Nd} (hz : N[i]? = some z) :
    ∃ g, ao = some ⟨g, 0, none⟩ ∧ w.cell? ⟨g, i * 9 + 8, none⟩ = some z.kv ∧ (∃ a c, z.kv = .slice a z.kids.length c) ∧ ∀ k q, z.kids[k]? = some q → ∃ kb c, z.kv = .slice (some ⟨kb, 0, none⟩) z.kids.length c ∧ w.cell? ⟨kb, k, none⟩ = some (.int .i64 q) ∧ w.frozen? ⟨kb, k, none⟩ = false := by
  obtain ⟨hi, hzi⟩ := List.getElem?_eq_some_iff.1 hz
  have hzm : z ∈ N := hzi ▸ List.getElem_mem hi
  have hkz := h.kid z hzm
  have hr := h.row
  rcases hr.2 with ⟨e, h0⟩ | ⟨g, cap', cur, e, -⟩
  · exfalso
    have h1 := hr.1
    rw [h0] at h1
    simp at h1
    omega
  · simp only [Value.slice.injEq] at e
    obtain ⟨rfl, hnl, rfl⟩ := e
    subst hnl
    have hc := (own_cellC ndc_len hr i hi 8 (by omega)).1
    rw [hzi] at hc
    refine ⟨g, rfl, hc, own_val hkz, fun k q hq => ?_⟩
    obtain ⟨hk, hkq⟩ := List.getElem?_eq_some_iff.1 hq
    rcases hkz.2 with ⟨e, h0⟩ | ⟨kb, c, cur, e, -⟩
    · exfalso
      have h1 := hkz.1
      rw [h0] at h1
      simp at h1
      omega
    · rw [e] at hkz
      refine ⟨kb, c, e, ?_, World.ownsRow.frozenAt hkz k⟩
      rw [World.ownsRow.cellAt hkz k (by omega)]
      simp [iv, hq]
set_option maxRecDepth 100000 in
set_option maxHeartbeats 8000000 in
theorem moved_any (v : Value) (N : List Nd) (n : Nat) (w : World) (h : NsIn w v N) (hl : N.length ≤ 2048) (hn : n ≤ 1000000) (hq : ∀ x ∈ N, ∀ q ∈ x.kids, 0 ≤ q ∧ q ≤ 1000000) :
    Calls Tryz.prog 85 #[v, .int .i64 n] w (NsPost (N.map (mv n)) w) := by
  have HC := Lib.hid (copyNodes_any v N w h hl)
  have HQ := Lib.hid hq
  have HI := Lib.hid (fun x hx => (h.2 x hx).2)
  obtain ⟨ao, cap, hv⟩ := h.1.val
  rw [List.length_map] at hv
  subst hv
  obtain ⟨len, hlen⟩ : ∃ len, len = N.length := ⟨_, rfl⟩
  have HLn := Lib.hid hlen
  rw [← hlen] at HC hl ⊢
  clear h hlen hq
  go_enter Tryz.func85, Tryz.ntmps85
  go_wp2_with fail
  refine HC.out.mono ?_
  rintro e z0 ⟨v', N', rfl, hm, hown, hbel⟩
  have hnl : N'.length = N.length := by simpa using congrArg List.length hm
  obtain ⟨ao', cap', rfl⟩ := own_val hown.row
  rw [hnl, ← HLn.out] at hown ⊢
  have HM := Lib.hid hm
  have HO := Lib.hid hown
  have HB := Lib.hid hbel
  clear hm hown hbel hnl HC
  go_wp2
  go_loopw [6, 7] (fun a b wr => ∃ (i : Nat) (N2 : List Nd), a = .int .i64 i ∧ i ≤ len ∧ Hid (N2.map sk = ((N.take i).map (mv n) ++ N.drop i).map sk) ∧ Hid (NsOwn w.heap.size wr (.slice ao' len cap') N2) ∧ Hid (Below w.heap.size w wr)) (fun a _ _ => len - (intOf a).toNat)
  case atStart => exact ⟨0, N', rfl, Nat.zero_le _, Lib.hid (by simpa using HM.out), HO, HB⟩
  case round =>
    clear HM HO HB
    obtain ⟨i, N2, rfl, hil, HM, HO, HB⟩ := hrel
    by_cases hlt : i < len
    · have hlt2 : (i : Int) < len := by omega
      obtain ⟨x, hx⟩ : ∃ x, N[i]? = some x := ⟨_, List.getElem?_eq_getElem (by rw [← HLn.out]; exact hlt)⟩
      have hxm : x ∈ N := (List.getElem?_eq_some_iff.1 hx).2 ▸ List.getElem_mem (List.getElem?_eq_some_iff.1 hx).1
      have HQx := Lib.hid (HQ.out x hxm)
      have hdr : N.drop i = x :: N.drop (i + 1) := by
        obtain ⟨h1, h2⟩ := List.getElem?_eq_some_iff.1 hx
        rw [← h2]; exact List.drop_eq_getElem_cons h1
      have HD := Lib.hid hdr
      have HX := Lib.hid hx
      have HLi := Lib.hid (show (N.take i).length = i by rw [List.length_take]; have := HLn.out; omega)
      clear hx hdr
      obtain ⟨kn, hkn⟩ : ∃ kn, kn = x.kids.length := ⟨_, rfl⟩
      have HKn := Lib.hid hkn
      have hkb : kn ≤ 1000 := hkn ▸ HI.out x hxm
      clear hkn hxm
      go_wp2
      go_loopw [7] (fun b wr => ∃ (k : Nat) (N3 : List Nd), b = .int .i64 k ∧ k ≤ kn ∧ Hid (N3.map sk = ((N.take i).map (mv n) ++ mvN n k x :: N.drop (i + 1)).map sk) ∧ Hid (NsOwn w.heap.size wr (.slice ao' len cap') N3) ∧ Hid (Below w.heap.size w wr)) (fun b _ => kn - (intOf b).toNat)
      case atStart => exact ⟨0, N2, rfl, Nat.zero_le _, Lib.hid (by rw [HM.out, HD.out]; simp [mvN, mvK_zero]), HO, HB⟩
      case round =>
        clear HM HO HB
        obtain ⟨k, N3, rfl, hkk, HM, HO, HB⟩ := hrel
        obtain ⟨z, hz, hsz⟩ : ∃ z, N3[i]? = some z ∧ sk z = sk (mvN n k x) := by
          have h1 := congrArg (fun l => l[i]?) HM.out
          simp only [List.map_append, List.map_cons, List.getElem?_map] at h1
          rw [List.getElem?_append_right (by simp only [List.length_map]; rw [HLi.out]; exact Nat.le_refl _)] at h1
          simp only [List.length_map, HLi.out, Nat.sub_self, List.getElem?_cons_zero] at h1
          cases hz : N3[i]? with
          | none => rw [hz] at h1; cases h1
          | some z => rw [hz] at h1; exact ⟨z, rfl, Option.some.inj h1⟩
        have hzk : z.kids = mvK n k x.kids := by have := congrArg Nd.kids hsz; exact this
        have hzl : z.kids.length = kn := by rw [hzk, mvK_len, HKn.out]
        have HZk := Lib.hid hzk
        have HZ := Lib.hid hz
        have HSz := Lib.hid hsz
        obtain ⟨g, hg, hc8, ⟨za, zc, hzv⟩, hkc⟩ := HO.out.kidCell hz
        rw [hzl] at hzv
        have HKc := Lib.hid hkc
        subst hg
        clear hz hsz hzk hkc
        by_cases hkt : k < kn
        · have hkt2 : (k : Int) < kn := by omega
          obtain ⟨q, hq⟩ : ∃ q, x.kids[k]? = some q := ⟨_, List.getElem?_eq_getElem (by rw [← HKn.out]; exact hkt)⟩
          have hqb := HQx.out q ((List.getElem?_eq_some_iff.1 hq).2 ▸ List.getElem_mem (List.getElem?_eq_some_iff.1 hq).1)
          have hzq : z.kids[k]? = some q := by rw [HZk.out, mvK_get, hq]
          obtain ⟨kb, zc2, hzv2, hck, hfk⟩ := HKc.out k q hzq
          have HQk := Lib.hid hq
          have HZv := Lib.hid hzv2
          rw [hzl] at hzv2
          rw [hzv2] at hc8
          have hw1 : IntKind.i64.wrap (q + (n : Int)) = q + n := IntWalk.i64_in _ (by omega)
          have HSet := Lib.hid (HO.out.setKid HZ.out (k := k) (q + n) HZv.out)
          clear hq hzq hzv hzv2 HKc
          go_upto_region 8 with (fail)
          go_still_tail 17, (by kernel_rfl)
          repeat still_step
          try refine wpStill_nil ?_
          go_wp2
          go_roundw
          case measure => simp [intOf]; omega
          case rel => exact ⟨k + 1, _, by go_num, by omega, Lib.hid (by
            have h1 : ({ z with kids := z.kids.set k (q + n) } : Nd) = { z with kids := mvK n (k + 1) x.kids } := by rw [HZk.out, mvK_set n k x.kids q HQk.out]
            have h2 : sk { z with kids := mvK n (k + 1) x.kids } = sk (mvN n (k + 1) x) := by
              have := HSz.out
              simp only [sk, mvN, Nd.mk.injEq] at this ⊢
              obtain ⟨a1, a2, a3, a4, a5, a6, a7, a8, -, -⟩ := this
              exact ⟨a1, a2, a3, a4, a5, a6, a7, a8, by simp⟩
            rw [h1, List.map_set, h2, HM.out]
            simp only [List.map_append, List.map_cons]
            rw [List.set_append_right _ _ (by simp only [List.length_map]; rw [HLi.out]; exact Nat.le_refl _)]
            simp only [List.length_map, HLi.out, Nat.sub_self, List.set_cons_zero]), Lib.hid (HSet.out.1.later ((Below.refl _ _).drew)), Lib.hid (HB.out.trans ((Keeps.one_below HSet.out.2 HB.out.size ((HO.out.kid z ((List.getElem?_eq_some_iff.1 HZ.out).2 ▸ List.getElem_mem (List.getElem?_eq_some_iff.1 HZ.out).1)).lt kb (by rw [HZv.out]; rfl)).1).drew))⟩
        · have hkt2 : ¬ (k : Int) < kn := by omega
          rw [hzv] at hc8
          clear hzv
          go_wp2
          go_roundw
          case measure => simp [intOf]; omega
          case rel => exact ⟨i + 1, N3, by go_num, by omega, Lib.hid (by
            have h2 : k = x.kids.length := by have := HKn.out; omega
            rw [HM.out, h2, List.take_add_one, HX.out]
            simp [mvN, mvK_full, mv, sk]), HO, HB⟩
    · have hlt2 : ¬ (i : Int) < len := by omega
      go_wp2
      go_ret
      have hk : i = len := by omega
      have := HM.out
      rw [hk, HLn.out, List.take_length, List.drop_length, List.append_nil] at this
      exact ⟨_, N2, rfl, this, HLn.out ▸ HO.out, HB.out⟩
end Go.Proofs.YtkimkghldilliaaGreat
namespace Go.Proofs.YtkimkghldilliaaGreat
open Go.RowKit Go.Lib

/-- where kids begin, from m on. -/
def ofK : Nat → List (List Nd) → List Int
  | _, [] => []
  | m, L :: r => (m : Int) :: ofK (m + L.length) r
def ofT : Nat → List (List Nd) → List Nd
  | _, [] => []
  | m, L :: r => L.map (mv m) ++ ofT (m + L.length) r
def bare (kd : Int) (ks : List Int) : Nd := ⟨kd, 0, 0, 0, 0, ⟨#[]⟩, 0, 0, ks, .slice none 0 0⟩
def ofN (kd : Int) (Ls : List (List Nd)) : List Nd := bare kd (ofK 1 Ls) :: ofT 1 Ls
theorem ofT_len : ∀ (Ls : List (List Nd)) (m : Nat), (ofT m Ls).length = (Ls.map List.length).sum
  | [], m => rfl
  | L :: r, m => by simp [ofT, ofT_len r]
theorem ofK_snoc : ∀ (Ls : List (List Nd)) (m : Nat) (L : List Nd), ofK m (Ls ++ [L]) = ofK m Ls ++ [((m + (Ls.map List.length).sum : Nat) : Int)]
  | [], m, L => by simp [ofK]
  | X :: r, m, L => by simp only [List.cons_append, ofK, ofK_snoc r, List.map_cons, List.sum_cons, Nat.add_assoc]
theorem ofT_snoc : ∀ (Ls : List (List Nd)) (m : Nat) (L : List Nd), ofT m (Ls ++ [L]) = ofT m Ls ++ L.map (mv ((m + (Ls.map List.length).sum : Nat) : Int))
  | [], m, L => by simp [ofT]
  | X :: r, m, L => by simp only [List.cons_append, ofT, ofT_snoc r, List.map_cons, List.sum_cons, Nat.add_assoc, List.append_assoc]
theorem ofN_len (kd : Int) (Ls : List (List Nd)) : (ofN kd Ls).length = 1 + (Ls.map List.length).sum := by simp [ofN, ofT_len]; omega
theorem ofN_snoc (kd : Int) (Ls : List (List Nd)) (L : List Nd) : ofN kd (Ls ++ [L]) = bare kd (ofK 1 Ls ++ [((ofN kd Ls).length : Int)]) :: (ofT 1 Ls ++ L.map (mv ((ofN kd Ls).length : Int))) := by
  rw [ofN_len, ofN, ofK_snoc, ofT_snoc]
/-- nodes behind nodes. -/
theorem NsOwn.join {base base' : Nat} {w w1 : World} {v v' vM : Value} {N M : List Nd} (h : NsOwn base w v N) (hM : NsOwn base' w vM M) (hb : base ≤ base') (hlt : ∀ y ∈ N, ∀ k, y.kv.ownBlock = some k → k < base')
    (hown : w1.ownsRow base 60 9 v' (N.length + M.length) (N.flatMap ndc ++ M.flatMap ndc)) (hg : w.grownBy w1 v.ownBlock) : NsOwn base w1 v' (N ++ M) := by
  have hk := keeps_grown hg
  refine ⟨?_, fun y hy => ?_, ?_⟩
  · simpa using hown
  · rcases List.mem_append.1 hy with hy | hy
    · exact Keeps.row hk (h.kid y hy) (fun k e e2 => own_ne (h.kid y hy) h.row (by decide) k e e2.symm)
    · exact Keeps.row hk (ownsRow_base (hM.kid y hy) hb) (fun k e e2 => own_ne (hM.kid y hy) h.row (by decide) k e e2.symm)
  · refine List.pairwise_append.2 ⟨h.apart, hM.apart, fun a ha b hb k e1 e2 => ?_⟩
    have h1 := hlt a ha k e1
    have h2 := ((hM.kid b hb).lt k e2).1
    omega
/-- the first node's kids are one more. -/
theorem NsOwn.kidMore {base : Nat} {w w1 : World} {g n cap : Nat} {x : Nd} {N : List Nd} {kv' : Value} {m : Int} (h : NsOwn base w (.slice (some ⟨g, 0, none⟩) n cap) (x :: N))
    (hown : w1.ownsRow base 3 1 kv' (x.kids.length + 1) (iv x.kids ++ [.int .i64 m])) (hg : w.grownBy w1 x.kv.ownBlock) (hblk : ∀ k, kv'.ownBlock = some k → x.kv.ownBlock = some k ∨ w.heap.size ≤ k) :
    NsOwn base (w1.setCell ⟨g, 8, none⟩ kv') (.slice (some ⟨g, 0, none⟩) n cap) ({ x with kids := x.kids ++ [m], kv := kv' } :: N) := by
  have hk := keeps_grown hg
  have hx := h.kid x (by simp)
  have hn : n = (x :: N).length := by
    obtain ⟨a, c, e⟩ := own_val h.row
    simp only [Value.slice.injEq] at e
    exact e.2.1
  have hrow := Keeps.row hk h.row (fun k e e2 => own_ne h.row hx (by decide) k e e2.symm)
  have hs := (Keeps.refl (fun j => j = g) w1).setCell (p := ⟨g, 8, none⟩) rfl kv'
  refine ⟨?_, fun y hy => ?_, ?_⟩
  · subst hn
    have h8 := own_setC ndc_len hrow 0 (by simp) 8 (by omega) ({ x with kids := x.kids ++ [m], kv := kv' }) kv' (by simp [ndc])
    simpa using h8
  · rcases List.mem_cons.1 hy with rfl | hy
    · simp only [List.length_append, List.length_singleton, List.map_append, List.map_cons, List.map_nil]
      exact Keeps.row hs hown (fun k e e2 => own_ne hown hrow (by decide) k e (by rw [e2]; rfl))
    · have hy2 := h.kid y (by simp [hy])
      have h1 := Keeps.row hk hy2 (fun k e e2 => (List.pairwise_cons.1 h.apart).1 y hy k e2.symm e)
      exact Keeps.row hs h1 (fun k e e2 => own_ne h1 hrow (by decide) k e (by rw [e2]; rfl))
  · refine List.pairwise_cons.2 ⟨fun y hy k e e2 => ?_, (List.pairwise_cons.1 h.apart).2⟩
    rcases hblk k e with h1 | h1
    · exact (List.pairwise_cons.1 h.apart).1 y hy k h1 e2
    · have := ((h.kid y (by simp [hy])).lt k e2).2
      omega
end Go.Proofs.YtkimkghldilliaaGreat
namespace Go.Proofs.YtkimkghldilliaaGreat
open Go.RowKit Go.Lib

/-- bodies that kids are made of. -/
def BsIn (w : World) (v : Value) (Ls : List (List Nd)) : Prop := ∃ vs, CellsAt w v vs ∧ vs.length = Ls.length ∧ ∀ (i : Nat) (L : List Nd) (vi : Value), Ls[i]? = some L → vs[i]? = some vi → NsIn w vi L ∧ L.length ≤ 2000 ∧ ∀ x ∈ L, ∀ q ∈ x.kids, 0 ≤ q ∧ q ≤ 1000000
theorem NsOwn.cell8 {base : Nat} {w w1 : World} {g n cap : Nat} {x : Nd} {N : List Nd} (h : NsOwn base w (.slice (some ⟨g, 0, none⟩) n cap) (x :: N)) (hg : w.grownBy w1 x.kv.ownBlock) : w1.cell? ⟨g, 8, none⟩ = some x.kv ∧ w1.frozen? ⟨g, 8, none⟩ = false := by
  have hn : n = (x :: N).length := by
    obtain ⟨a, c, e⟩ := own_val h.row
    simp only [Value.slice.injEq] at e
    exact e.2.1
  subst hn
  have hrow := Keeps.row (keeps_grown hg) h.row (fun k e e2 => own_ne h.row (h.kid x (by simp)) (by decide) k e e2.symm)
  have := own_cellC ndc_len hrow 0 (by simp) 8 (by omega)
  simpa [ndc] using this
theorem BsIn.cell {w : World} {ao : Option Addr} {n cap : Nat} {Ls : List (List Nd)} (h : BsIn w (.slice ao n cap) Ls) : n = Ls.length ∧ ∀ i L, Ls[i]? = some L → ∃ b off vi, ao = some ⟨b, off, none⟩ ∧ NsIn w vi L ∧ L.length ≤ 2000 ∧ (∀ x ∈ L, ∀ q ∈ x.kids, 0 ≤ q ∧ q ≤ 1000000) ∧ w.cell? ⟨b, off + i, none⟩ = some vi := by
  obtain ⟨vs, ⟨ao', b, off, cap', e, h1, h2, h3, h4, h5, h6⟩, hl, hv⟩ := h
  simp only [Value.slice.injEq] at e
  obtain ⟨rfl, rfl, rfl⟩ := e
  refine ⟨hl, fun i L hL => ?_⟩
  have hi : i < vs.length := by rw [hl]; exact (List.getElem?_eq_some_iff.1 hL).1
  obtain ⟨g1, g2, g3⟩ := hv i L vs[i] hL (List.getElem?_eq_getElem hi)
  exact ⟨b, off, vs[i], h4 (by omega), g1, g2, g3, h6 i hi⟩
set_option maxRecDepth 100000 in
set_option maxHeartbeats 8000000 in
theorem of_made (kd : Int) (v : Value) (Ls : List (List Nd)) (w : World) (h : BsIn w v Ls) (hs : (Ls.map List.length).sum ≤ 2000) (hLs : Ls.length ≤ 64) :
    Calls Tryz.prog 40 #[.int .i64 kd, v] w (NsPost (ofN kd Ls) w) := by
  obtain ⟨ao, n, cap, rfl⟩ : ∃ ao n cap, v = .slice ao n cap := by obtain ⟨vs, ⟨ao, b, off, cap, e, -⟩, -⟩ := h; exact ⟨_, _, _, e⟩
  obtain ⟨hn, hc⟩ := h.cell
  have HN := Lib.hid hn
  have HC := Lib.hid hc
  have HS := Lib.hid hs
  rw [← hn] at hLs
  clear h hn hc hs
  obtain ⟨i0, hi0, hz0, hz1, hz2⟩ := info_parts Tryz.infoInt
  obtain ⟨j0, hj0, hy0, hy1, hy2⟩ := info_parts Tryz.infoNode
  go_enter Tryz.func40, Tryz.ntmps40
  go_upto_region 2 with (fail)
  have hn := one_new w (.cells #[.int .i64 kd, .int .u64 0, .int .u64 0, .int .u64 0, .int .u64 0, .string ⟨#[]⟩, .int .i64 0, .int .i64 0, .slice none 0 0] 60 (0, 0))
  refine gen_world (S := fun u => Below w.heap.size w u ∧ u.heap[w.heap.size]? = some (.cells #[.int .i64 kd, .int .u64 0, .int .u64 0, .int .u64 0, .int .u64 0, .string ⟨#[]⟩, .int .i64 0, .int .i64 0, .slice none 0 0] 60 (0, 0))) hn (fun u hu => ?_)
  obtain ⟨hb, h1⟩ := hu
  clear hn
  have HO := Lib.hid (show NsOwn w.heap.size u (.slice (some ⟨w.heap.size, 0, none⟩) 1 1) [bare kd []] from ⟨own_shut (cur := #[.int .i64 kd, .int .u64 0, .int .u64 0, .int .u64 0, .int .u64 0, .string ⟨#[]⟩, .int .i64 0, .int .i64 0, .slice none 0 0]) rfl (Nat.le_refl _) h1 (by omega) (by unfold maxLen; omega) rfl (by simp [ndc, bare]), fun x hx => by simp only [List.mem_singleton] at hx; subst hx; exact World.ownsRow_nil _ _ _ _, by simp⟩)
  have HB := Lib.hid hb
  obtain ⟨X, hX⟩ : ∃ X, X = w.heap.size := ⟨_, rfl⟩
  have HX := Lib.hid hX
  rw [← hX] at HO ⊢
  clear hb h1 hX
  go_wp2
  go_loopw [5, 6, 7] (fun a b c wr => ∃ (i : Nat) (N' : List Nd), b = .int .i64 i ∧ i ≤ n ∧ Hid (N'.map sk = (ofN kd (Ls.take i)).map sk) ∧ Hid (NsOwn w.heap.size wr a N') ∧ Hid (Below w.heap.size w wr)) (fun _ b _ _ => n - (intOf b).toNat)
  case atStart => exact ⟨0, [bare kd []], rfl, Nat.zero_le _, Lib.hid (by simp [ofN, ofK, ofT, bare, sk]), Lib.hid (by rw [← HX.out]; exact HO.out), HB⟩
  case round =>
    clear HO HB
    obtain ⟨i, N', rfl, hin, HM, HO, HB⟩ := hrel
    by_cases hlt : i < n
    · have hlt2 : (i : Int) < n := by omega
      obtain ⟨L, hL⟩ : ∃ L, Ls[i]? = some L := ⟨_, List.getElem?_eq_getElem (by rw [← HN.out]; exact hlt)⟩
      have HL := Lib.hid hL
      obtain ⟨x, N2, rfl⟩ : ∃ x N2, N' = x :: N2 := by
        cases N' with
        | nil => have := HM.out; simp [ofN] at this
        | cons x N2 => exact ⟨x, N2, rfl⟩
      obtain ⟨ao', cap', hv⟩ := own_val HO.out.row
      subst hv
      obtain ⟨ln, hln⟩ : ∃ ln, ln = (x :: N2).length := ⟨_, rfl⟩
      have HLn := Lib.hid hln
      rw [← hln] at HO ⊢
      obtain ⟨g, hg, hc8, ⟨ka, kc, hkv⟩, -⟩ := HO.out.kidCell (i := 0) (z := x) rfl
      subst hg
      rw [Nat.zero_mul, Nat.zero_add] at hc8
      have hln2 : ln = (ofN kd (Ls.take i)).length := by rw [hln]; have := congrArg List.length HM.out; simpa using this
      have HLn2 := Lib.hid hln2
      have hl0 : (0 : Int) < ln := by rw [hln]; simp
      have hlb : ln ≤ 2001 := by
        rw [hln2, ofN_len]
        have h1 : ((Ls.take i).map List.length).sum ≤ (Ls.map List.length).sum := by
          conv => rhs; rw [← List.take_append_drop i Ls]
          rw [List.map_append, List.sum_append]
          omega
        have := HS.out
        omega
      have hkl : x.kids.length ≤ 64 := by
        have h1 : sk x = sk (bare kd (ofK 1 (Ls.take i))) := by have := HM.out; simp only [ofN, List.map_cons, List.cons.injEq] at this; exact this.1
        have h2 : x.kids = ofK 1 (Ls.take i) := congrArg Nd.kids h1
        have h3 : ∀ (m : Nat) (l : List (List Nd)), (ofK m l).length = l.length := by intro m l; induction l generalizing m with | nil => rfl | cons a t ih => simp [ofK, ih]
        rw [h2, h3, List.length_take]
        omega
      obtain ⟨kl, hkl2⟩ : ∃ kl, kl = x.kids.length := ⟨_, rfl⟩
      have HKl := Lib.hid hkl2
      have hkid := HO.out.kid x (by simp)
      rw [← hkl2] at hkl hkv hkid
      have HKv := Lib.hid hkv
      rw [hkv] at hc8 hkid
      have hsz := HB.out.size
      clear hL hln hln2 hkl2 hkv
      go_upto_region 7 with (at_builtin; refine wpList_append_mine _ rfl (.tmp 23) (.tmp 25) 52 rfl w.heap.size 3 i0 _ 1 8 Tryz.underlying52 hi0 hz0 hz1 hz2 rfl (by decide) _ kl (iv x.kids) rfl (hkid.alloc _) (some ⟨wr.heap.size, 0, none⟩) 1 1 [.int .i64 ln] rfl rfl (fun h => by cases h) (by intro ad had; simp only [Option.some.injEq] at had; subst had; exact World.news_of_block (t := 3) (fr := (0, 0)) (heap_alloc_new wr _)) (by simp [Value.oneCell']) (by unfold maxLen; omega) (by omega) (by simp; omega) ?_; intro v1 w1 hown1 hgrow1 hblk1; obtain ⟨av, cv, rfl⟩ := own_val hown1; obtain ⟨e8, f8⟩ := NsOwn.cell8 (HO.out.later (one_new wr (.cells #[.int .i64 ln] 3 (0, 0))).1) (by rw [HKv.out]; exact hgrow1))
      have HO1 := Lib.hid (NsOwn.kidMore (HO.out.later (one_new wr (.cells #[.int .i64 ln] 3 (0, 0))).1) (kv' := .slice av (kl + 1) cv) (m := (ln : Int)) (by rw [← HKl.out]; exact hown1) (by rw [HKv.out]; exact hgrow1) (fun k e => by rw [HKv.out]; exact hblk1 k e))
      have HB1 := Lib.hid (HB.out.trans (((Below.refl w.heap.size wr).alloc hsz _).grown hgrow1 (by simp; omega) (fun r hr => (hkid.lt r hr).1)))
      obtain ⟨y, hy⟩ : ∃ y, y = w1.setCell ⟨g, 8, none⟩ (.slice av (kl + 1) cv) := ⟨_, rfl⟩
      have HBy := Lib.hid (show Below w.heap.size w y by rw [hy]; exact HB1.out.setCell (p := ⟨g, 8, none⟩) (HO.out.row.lt g rfl).1 _)
      rw [← hy] at HO1 ⊢
      clear hown1 hgrow1 hblk1 e8 f8 hy hc8 hkid hsz
      obtain ⟨b, off, vi, hao, hni, hLl, hLq, hvc⟩ := HC.out i L HL.out
      have hvy := cell_later HBy.out hvc
      have HMv := Lib.hid (moved_any vi L ln y (hni.later HBy.out) (by omega) (by omega) hLq)
      subst hao
      clear hni hvc hLq
      go_wp2_with fail
      refine HMv.out.mono ?_
      rintro e z ⟨vM, M, rfl, hmM, hoM, hbM⟩
      obtain ⟨aM, cM, rfl⟩ := own_val hoM.row
      obtain ⟨-, hlc, hcm, hnil, hnews⟩ := rows_news ndc_len (by omega) (own_rows ndc_len rfl hoM.row)
      have hML : M.length = L.length := by simpa using congrArg List.length hmM
      have Hnil := Lib.hid hnil
      have Hnews := Lib.hid hnews
      have HMo := Lib.hid hoM
      have Hone := Lib.hid (show ∀ u ∈ M.flatMap ndc, u.oneCell' = true from fun u hu => by
        obtain ⟨q, hq, hqu⟩ := List.mem_flatMap.1 hu
        obtain ⟨qa, qc, e⟩ := own_val (hoM.kid q hq)
        exact ndc_one q (by rw [e]; rfl) u hqu)
      have HFl := Lib.hid (flat_len ndc_len M)
      have HMm := Lib.hid hmM
      obtain ⟨ml, hml⟩ : ∃ ml, ml = M.length := ⟨_, rfl⟩
      have HMl := Lib.hid hml
      rw [← hml] at Hnil HFl hML ⊢
      have HOz := Lib.hid (HO1.out.later hbM)
      have HBz := Lib.hid (HBy.out.trans (hbM.mono HBy.out.size))
      have hrow := HOz.out.row
      have hNl : ({ x with kids := x.kids ++ [(ln : Int)], kv := .slice av (kl + 1) cv } :: N2 : List Nd).length = ln := by rw [HLn.out]; simp
      rw [hNl] at hrow
      have HNl := Lib.hid hNl
      have hsz := HBz.out.size
      have hLl2 : ml ≤ 2000 := by omega
      have HML := Lib.hid hML
      clear hnil hnews hml hbM hNl hmM hoM HMv hvy hML
      go_wp2_with (at_builtin; refine wpList_append_mine _ rfl (.tmp 29) (.tmp 35) 23 rfl w.heap.size 60 j0 _ 9 96 Tryz.underlying23 hj0 hy0 hy1 hy2 rfl (by decide) _ ln _ rfl hrow aM ml cM (M.flatMap ndc) rfl HFl.out (fun h => Hnil.out h) Hnews.out Hone.out (by unfold maxLen; omega) (by omega) hsz ?_; intro v2 w2 hown2 hgrow2 hblk2)
      have HP := Lib.hid (NsOwn.join HOz.out HMo.out HBy.out.size (fun u hu k e => ((HO1.out.kid u hu).lt k e).2) (by rw [HNl.out, ← HMl.out]; exact hown2) hgrow2)
      have HB2 := Lib.hid (HBz.out.trans ((Below.refl w.heap.size z).grown hgrow2 hsz (fun r hr => (hrow.lt r hr).1)))
      clear hown2 hgrow2 hblk2 hrow hsz
      refine ⟨⟨i + 1, _, by go_num, by omega, Lib.hid ?_, HP, HB2⟩, by simp [intOf]; omega⟩
      have hof : sk x = sk (bare kd (ofK 1 (Ls.take i))) ∧ N2.map sk = (ofT 1 (Ls.take i)).map sk := by have := HM.out; simpa only [ofN, List.map_cons, List.cons.injEq] using this
      rw [List.take_add_one, HL.out, Option.toList_some, ofN_snoc, ← HLn2.out, List.map_append, HMm.out, List.map_cons, List.map_cons, List.map_append, hof.2]
      have h1 : sk ({ x with kids := x.kids ++ [(ln : Int)], kv := .slice av (kl + 1) cv }) = sk (bare kd (ofK 1 (Ls.take i) ++ [(ln : Int)])) := by
        have := hof.1
        simp only [sk, bare, Nd.mk.injEq] at this ⊢
        obtain ⟨a1, a2, a3, a4, a5, a6, a7, a8, a9, -⟩ := this
        rw [a9]
        exact ⟨a1, a2, a3, a4, a5, a6, a7, a8, by simp⟩
      rw [h1]
      simp
    · have hlt2 : ¬ (i : Int) < n := by omega
      go_wp2
      go_ret
      have hk : i = n := by omega
      have := HM.out
      rw [hk, HN.out, List.take_length] at this
      exact ⟨_, N', rfl, this, HO.out, HB.out⟩
end Go.Proofs.YtkimkghldilliaaGreat
namespace Go.Proofs.YtkimkghldilliaaGreat
open Go.RowKit Go.Lib

theorem NsOwn.one {w u : World} {x : Nd} (hk : x.kids = []) (hv : x.kv = .slice none 0 0) (h : u.heap[w.heap.size]? = some (.cells (List.toArray (ndc x)) 60 (0, 0))) : NsOwn w.heap.size u (.slice (some ⟨w.heap.size, 0, none⟩) 1 1) [x] :=
  ⟨own_shut (cur := List.toArray (ndc x)) rfl (Nat.le_refl _) h (by omega) (by unfold maxLen; omega) rfl (by simp [ndc]), fun y hy => by
    simp only [List.mem_singleton] at hy
    subst hy
    rw [hk, hv]
    exact World.ownsRow_nil _ _ _ _, by simp⟩
def callN (r l : Int) : Nd := ⟨5, 0, 0, 0, 0, ⟨#[]⟩, r, l, [], .slice none 0 0⟩
def wordN (t : ByteArray) : Nd := ⟨4, 0, 0, 0, 0, t, 0, 0, [], .slice none 0 0⟩
set_option maxRecDepth 100000 in
set_option maxHeartbeats 1000000 in
theorem call_made (r l : Int) (w : World) : Calls Tryz.prog 38 #[.int .i64 r, .int .i64 l] w (NsPost [callN r l] w) := by
  have hn := one_new w (.cells #[.int .i64 5, .int .u64 0, .int .u64 0, .int .u64 0, .int .u64 0, .string ⟨#[]⟩, .int .i64 r, .int .i64 l, .slice none 0 0] 60 (0, 0))
  have HN := Lib.hid hn
  clear hn
  go_enter Tryz.func38, Tryz.ntmps38
  go_wp2
  go_ret
  exact ⟨_, [callN r l], rfl, rfl, NsOwn.one rfl rfl HN.out.2, HN.out.1⟩
set_option maxRecDepth 100000 in
set_option maxHeartbeats 1000000 in
theorem word_made (t : ByteArray) (w : World) : Calls Tryz.prog 39 #[.string t] w (NsPost [wordN t] w) := by
  have hn := one_new w (.cells #[.int .i64 4, .int .u64 0, .int .u64 0, .int .u64 0, .int .u64 0, .string t, .int .i64 0, .int .i64 0, .slice none 0 0] 60 (0, 0))
  have HN := Lib.hid hn
  clear hn
  go_enter Tryz.func39, Tryz.ntmps39
  go_wp2
  go_ret
  exact ⟨_, [wordN t], rfl, rfl, NsOwn.one rfl rfl HN.out.2, HN.out.1⟩
theorem BsIn.row {u : World} {g : Nat} {vs : List Value} {Ls : List (List Nd)} (hu : u.heap[g]? = some (.cells (List.toArray vs) 23 (0, 0))) (hl : vs.length = Ls.length) (hm : vs.length ≤ 64) (h1 : ∀ u ∈ vs, u.oneCell' = true)
    (h : ∀ (i : Nat) (L : List Nd) (vi : Value), Ls[i]? = some L → vs[i]? = some vi → NsIn u vi L ∧ L.length ≤ 2000 ∧ ∀ x ∈ L, ∀ q ∈ x.kids, 0 ≤ q ∧ q ≤ 1000000) : BsIn u (.slice (some ⟨g, 0, none⟩) vs.length vs.length) Ls := by
  refine ⟨vs, ⟨_, g, 0, vs.length, rfl, Nat.le_refl _, by unfold maxLen; omega, (fun h => by cases h), fun _ => rfl, h1, fun k hk => ?_⟩, hl, h⟩
  rw [Nat.zero_add, (block_cell' hu k).1]
  simp [hk]
theorem BsIn.two {u : World} {g : Nat} {va vb : Value} {A B : List Nd} (hu : u.heap[g]? = some (.cells #[va, vb] 23 (0, 0))) (ha : NsIn u va A) (hb : NsIn u vb B) (hl : A.length + B.length ≤ 2000) (hq : ∀ x ∈ A ++ B, ∀ q ∈ x.kids, 0 ≤ q ∧ q ≤ 1000000) (h1 : va.oneCell' = true) (h2 : vb.oneCell' = true) : BsIn u (.slice (some ⟨g, 0, none⟩) 2 2) [A, B] := by
  refine BsIn.row (vs := [va, vb]) hu rfl (by simp) (by simp [h1, h2]) (fun i L vi e1 e2 => ?_)
  match i, e1, e2 with
  | 0, e1, e2 =>
    simp only [List.getElem?_cons_zero, Option.some.injEq] at e1 e2
    subst e1
    subst e2
    exact ⟨ha, by omega, fun x hx => hq x (by simp [hx])⟩
  | 1, e1, e2 =>
    simp only [List.getElem?_cons_succ, List.getElem?_cons_zero, Option.some.injEq] at e1 e2
    subst e1
    subst e2
    exact ⟨hb, by omega, fun x hx => hq x (by simp [hx])⟩
  | i + 2, e1, e2 => simp at e1
set_option maxRecDepth 100000 in
set_option maxHeartbeats 2000000 in
theorem chain_made (va vb : Value) (A B : List Nd) (w : World) (ha : NsIn w va A) (hb : NsIn w vb B) (hl : A.length + B.length ≤ 2000) (hq : ∀ x ∈ A ++ B, ∀ q ∈ x.kids, 0 ≤ q ∧ q ≤ 1000000) :
    Calls Tryz.prog 37 #[va, vb] w (NsPost (ofN 6 [A, B]) w) := by
  obtain ⟨aa, ac, rfl⟩ := ha.1.val
  obtain ⟨ba, bc, rfl⟩ := hb.1.val
  obtain ⟨al, hal⟩ : ∃ al, al = (A.map ndc).length := ⟨_, rfl⟩
  obtain ⟨bl, hbl⟩ : ∃ bl, bl = (B.map ndc).length := ⟨_, rfl⟩
  rw [← hal] at ha ⊢
  rw [← hbl] at hb ⊢
  have HN := Lib.hid (one_new w (.cells #[.slice aa al ac, .slice ba bl bc] 23 (0, 0)))
  have HOf := Lib.hid (fun u (hu : Below w.heap.size w u ∧ u.heap[w.heap.size]? = some (.cells #[.slice aa al ac, .slice ba bl bc] 23 (0, 0))) => of_made 6 (.slice (some ⟨w.heap.size, 0, none⟩) 2 2) [A, B] u (BsIn.two hu.2 (ha.later hu.1) (hb.later hu.1) hl hq rfl rfl) (by simp; omega) (by simp))
  clear ha hb hl hq hal hbl
  go_enter Tryz.func37, Tryz.ntmps37
  go_wp2_with fail
  refine (HOf.out _ HN.out).mono ?_
  rintro e z ⟨v', N', rfl, hm, hO, hB⟩
  have HM := Lib.hid (And.intro hm (And.intro hO hB))
  clear hm hO hB HOf
  obtain ⟨a3, c3, rfl⟩ := own_val HM.out.2.1.row
  go_wp2
  go_ret
  exact ⟨_, N', rfl, HM.out.1, HM.out.2.1.base_le HN.out.1.size, HN.out.1.trans (HM.out.2.2.mono HN.out.1.size)⟩
set_option maxRecDepth 100000 in
set_option maxHeartbeats 2000000 in
theorem first_made (va vb : Value) (A B : List Nd) (w : World) (ha : NsIn w va A) (hb : NsIn w vb B) (hl : A.length + B.length ≤ 2000) (hq : ∀ x ∈ A ++ B, ∀ q ∈ x.kids, 0 ≤ q ∧ q ≤ 1000000) :
    Calls Tryz.prog 36 #[va, vb] w (NsPost (ofN 7 [A, B]) w) := by
  obtain ⟨aa, ac, rfl⟩ := ha.1.val
  obtain ⟨ba, bc, rfl⟩ := hb.1.val
  obtain ⟨al, hal⟩ : ∃ al, al = (A.map ndc).length := ⟨_, rfl⟩
  obtain ⟨bl, hbl⟩ : ∃ bl, bl = (B.map ndc).length := ⟨_, rfl⟩
  rw [← hal] at ha ⊢
  rw [← hbl] at hb ⊢
  have HN := Lib.hid (one_new w (.cells #[.slice aa al ac, .slice ba bl bc] 23 (0, 0)))
  have HOf := Lib.hid (fun u (hu : Below w.heap.size w u ∧ u.heap[w.heap.size]? = some (.cells #[.slice aa al ac, .slice ba bl bc] 23 (0, 0))) => of_made 7 (.slice (some ⟨w.heap.size, 0, none⟩) 2 2) [A, B] u (BsIn.two hu.2 (ha.later hu.1) (hb.later hu.1) hl hq rfl rfl) (by simp; omega) (by simp))
  clear ha hb hl hq hal hbl
  go_enter Tryz.func36, Tryz.ntmps36
  go_wp2_with fail
  refine (HOf.out _ HN.out).mono ?_
  rintro e z ⟨v', N', rfl, hm, hO, hB⟩
  have HM := Lib.hid (And.intro hm (And.intro hO hB))
  clear hm hO hB HOf
  obtain ⟨a3, c3, rfl⟩ := own_val HM.out.2.1.row
  go_wp2
  go_ret
  exact ⟨_, N', rfl, HM.out.1, HM.out.2.1.base_le HN.out.1.size, HN.out.1.trans (HM.out.2.2.mono HN.out.1.size)⟩
end Go.Proofs.YtkimkghldilliaaGreat
