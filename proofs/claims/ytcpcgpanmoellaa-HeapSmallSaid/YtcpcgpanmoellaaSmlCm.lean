import Derived.Test.YtcpcgpanmoellaaUnoBm
namespace Go.Proofs.Ytcpcgpanmoellaa
open Go.RowKit Go.Lib Go.Shelf

/-- append onto a row of the call's own: the row as it was stays too. -/
theorem wpList_append_keep {P : Program} {w : World} {ops : Array Oper} {rest : List Oper} {o : Oper} {a : Act} {Q : Exit → Act → World → Prop} (hgd : Region.wanted o (yielded ops a.tmps) = true) (s x : Operand) (t : TypeId)
    (ho : o.op = .call { callee := .builtin .append, args := #[s, x], argTypes := #[t, t] })
    (base : Nat) (e : TypeId) (i : TypeInfo) (z : Value) (size bytes : Nat) (ht : P.underlying t = some (.slice e)) (hi : P.info? e = some i) (hz : i.zero = some z)
    (hsize : i.size = size) (hby : i.bytes = bytes) (hzs : z.cells.size = size) (hsz : 0 < size)
    (g n cap : Nat) (xs : List Value) (hs : a.eval s = .slice (some ⟨g, 0, none⟩) n cap) (hown : w.ownsRow base e size (.slice (some ⟨g, 0, none⟩) n cap) n xs)
    (ad : Addr) (m c : Nat) (news : List Value) (hx : a.eval x = .slice (some ad) m c) (hl : news.length = m * size) (hnews : ∀ j u, news[j]? = some u → w.cell? (ad.add j) = some u) (h1 : ∀ u ∈ news, u.oneCell' = true)
    (h63 : n + m ≤ maxLen) (hbytes : (n + m) * bytes ≤ 140737488355328) (hbase : base ≤ w.heap.size)
    (h : ∀ v' w', w'.ownsRow base e size v' (n + m) (xs ++ news) → w'.ownsRow base e size (.slice (some ⟨g, 0, none⟩) n cap) n xs → w.grownBy w' (some g) → wpList P ops Q rest (a.put o.dst v') w') :
    wpList P ops Q (o :: rest) a w := by
  by_cases hc : n + m ≤ cap
  · obtain ⟨w', hrun, h2, h3⟩ := run_append_fits (P := P) w base t o.type e i size ht hi hsize g n cap xs hown ad m c news hl hnews h1 hc
    have hold : w'.ownsRow base e size (.slice (some ⟨g, 0, none⟩) n cap) n xs := by
      obtain ⟨g', cap', cur, hv, hb, hg, k1, k2, k3, k4⟩ := h2.2.resolve_left (fun h => by simp at h)
      simp only [Value.slice.injEq, Option.some.injEq, Addr.mk.injEq] at hv
      obtain ⟨⟨rfl, -⟩, -, rfl⟩ := hv
      have hxl := hown.1
      refine ⟨hown.1, .inr ⟨g, cap, cur, rfl, hb, hg, by omega, k2, k3, ?_⟩⟩
      have h5 := congrArg (List.take (n * size)) k4
      rw [List.take_take, List.take_left' hxl] at h5
      rwa [Nat.min_eq_left (Nat.mul_le_mul_right _ (by omega))] at h5
    refine wpList_step fun K hK' => ?_
    rw [if_pos hgd]
    unfold Oper.wp
    simp [execOp, ho, resolve, invoke, builtin, hs, hx, hrun, Result.andThen]
    exact hK' _ _ (h _ _ h2 hold h3)
  · have hcells : ∀ b, (some ⟨g, 0, none⟩ : Option Addr) = some b → ∀ j u, xs[j]? = some u → w.cell? (b.add j) = some u := fun b hb j u hj => by
      obtain ⟨g', cap', cur, hv, hb', hg, k1, k2, k3, k4⟩ := hown.2.resolve_left (fun h => by simp at h)
      simp only [Value.slice.injEq, Option.some.injEq, Addr.mk.injEq] at hv hb
      obtain ⟨⟨rfl, -⟩, -, rfl⟩ := hv
      subst hb
      rw [add_none, Nat.zero_add, (block_cell' hg _).1]
      rw [← k4] at hj
      have := List.getElem?_eq_some_iff.1 hj
      rw [List.getElem?_take_of_lt (by have := this.1; simp at this; omega)] at hj
      simpa using hj
    obtain ⟨v', w', hrun, h2, h3⟩ := run_append_arg_grows (P := P) w t o.type e i z size bytes ht hi hz hsize hby hzs hsz _ n cap xs hown.1 (hcells _ rfl) ad m c news hl hnews (by omega) h63 hbytes
    refine wpList_step fun K hK' => ?_
    rw [if_pos hgd]
    unfold Oper.wp
    simp [execOp, ho, resolve, invoke, builtin, hs, hx, hrun, Result.andThen]
    exact hK' _ _ (h _ _ (ownsRow_base h2 hbase) (hown.kept h3 (by simp [Value.ownBlock])) ⟨h3.os, h3.tape, h3.output, h3.size, fun k hk _ => h3.block k hk (fun e => by cases e)⟩)
def ends : List Int := [-9223372036854775808, -1, 0, 1, 9223372036854775807]
theorem ends_len : ends.length = 5 := rfl
theorem ends_wf : ∀ i : Nat, (kx (ends.getD i 0)).wf = true := fun i => by
  match i with
  | 0 => decide
  | 1 => decide
  | 2 => decide
  | 3 => decide
  | 4 => decide
  | i + 5 => simp [ends]; decide
/-- the things at the ends. -/
def aL (k : Nat) : List (Int × Int) := (List.range k).map fun i => (ends.getD (4 - i) 0, ends.getD i 0)
theorem aL_succ (k : Nat) : aL (k + 1) = aL k ++ [(ends.getD (4 - k) 0, ends.getD k 0)] := by simp [aL, List.range_succ]
theorem aL_len (k : Nat) : (aL k).length = k := by simp [aL]
theorem aL_put : (putQ 0 [] (aL 5)).1 = true ∧ (putQ 0 [] (aL 5)).2.2.length = 5 ∧ (putQ 0 [] (aL 5)).2.1 = 5 := by decide
theorem aL_wf (k : Nat) : ∀ x ∈ aL k, (kx x.2).wf = true := fun x hx => by
  obtain ⟨i, -, rfl⟩ := List.mem_map.1 hx
  exact ends_wf i
theorem ends_cell {w : World} {E : Nat} {t : TypeId} (h : w.heap[E]? = some (.cells (iv ends).toArray t (0, 0))) {i : Nat} (hi : i < 5) : w.cell? ⟨E, i, none⟩ = some (.int .i64 (ends.getD i 0)) := by
  rw [(block_cell' h _).1]
  rcases (show i = 0 ∨ i = 1 ∨ i = 2 ∨ i = 3 ∨ i = 4 by omega) with rfl | rfl | rfl | rfl | rfl <;> rfl
theorem two_new (w : World) (o1 o2 : Obj) : Below w.heap.size w ((w.alloc o1).alloc o2) ∧ ((w.alloc o1).alloc o2).heap[w.heap.size]? = some o1 ∧ ((w.alloc o1).alloc o2).heap[w.heap.size + 1]? = some o2 := by
  refine ⟨((Below.refl _ _).alloc (Nat.le_refl _) _).alloc (by simp) _, (Below.heap_alloc _ _ _ (by simp)).trans (heap_alloc_new w _), ?_⟩
  have := heap_alloc_new (w.alloc o1) o2
  simpa using this
/-- a queue whose blocks stand ahead of C stays, if later ones alone are written. -/
theorem QuB.keeps [Watch] {base C q : Nat} {S : Nat → Prop} {w w' : World} {t : Int} {M : List En} (h : QuB base C w q t M) (hk : Keeps S w w') (hS : ∀ k, S k → C ≤ k) : QuB base C w' q t M := by
  obtain ⟨r, m, lv, L, g1, g2, g3, c1, c2, c3, c4⟩ := h
  have hn : ∀ k, k < C → ¬ S k := fun k hk h => by have := hS k h; omega
  exact ⟨r, m, lv, L, ⟨hk.obj g1.blk (hn _ c1), ⟨hk.obj g1.row.blk (hn _ c2), hk.row g1.row.row (fun k hk' => hn _ (c4 k hk')), g1.row.fn.keeps hk (hn _ c3), g1.row.once, g1.row.wf, g1.row.br, g1.row.bm, g1.row.le, g1.row.nr, g1.row.nm, g1.row.nl, Nat.le_trans g1.row.lim hk.size⟩, g1.hp, g1.trn, g1.bq⟩, g2, g3, c1, c2, c3, c4⟩
/-- a first thing is taken: nothing from C on is written. -/
theorem quTakeC {base C q : Nat} {t : Int} {M : List En} (w : World) (h : @QuB noWatch base C w q t M) (h0 : M ≠ []) (hC : C ≤ w.heap.size) :
    Calls Try.prog 13 #[.pointer (some ⟨q, 0, none⟩)] w fun en w' => (∃ a b, en = .returned (.tuple #[.agg #[.int .i64 a, .int .i64 b], .bool true])) ∧ (∃ M', @QuB noWatch base C w' q t M' ∧ M'.length + 1 = M.length) ∧ Keeps (fun k => k < C) w w' ∧ @KeepQ noWatch base q w w' := by
  have h1 : @QuB (mid C w.heap.size) base C w q t M := QuB.rewatch h _ (fun k hk hw => by have := hw.1; omega) (Nat.le_refl _)
  have ho : Once M := by
    obtain ⟨r, m, lv, L, g1, g2, -⟩ := h
    have := g1.row.once
    unfold Once at this ⊢
    exact (g2.map _).nodup_iff.1 this
  refine (@quTakeB (mid C w.heap.size) base C q t M w h1 h0).mono ?_
  rintro en w' ⟨e, he, rfl, h2, h3⟩
  obtain ⟨r, m, lv, L, -, -, -, c1, -⟩ := h
  refine ⟨⟨_, _, rfl⟩, ⟨_, QuB.rewatch h2 noWatch (fun k hk hw => hw) (Nat.zero_le _), dropN_len ho (hasN_iff.2 ⟨e, he.1, rfl⟩)⟩, Keeps.mono h3 (fun k hk hS => ?_), Keeps.mono h3 (fun k hk hS => ?_)⟩
  · rcases hS with hS | rfl
    · have := hS.1.2
      apply Classical.byContradiction
      intro hc
      exact this ⟨by omega, hk⟩
    · exact c1
  · rcases hS with hS | rfl
    · exact .inl ⟨⟨hS.1.1, fun h => h⟩, hS.2⟩
    · exact .inr rfl
/-- while it is gone through. -/
structure SmR (W : World) (base C q Bq Bn g cap j : Nat) (w : World) : Prop where
  qu : ∃ M, @QuB noWatch base C w q 5 M ∧ M.length + j = 5
  bq : w.heap[Bq]? = some (.cells #[.pointer (some ⟨q, 0, none⟩)] 24 (0, 0))
  bn : w.heap[Bn]? = some (.cells #[.int .i64 (j : Int)] 3 (0, 0))
  row : w.ownsRow W.heap.size 30 2 (.slice (some ⟨g, 0, none⟩) 5 cap) 5 ((aL 5).flatMap ite)
  bel : Below W.heap.size W w
theorem own_SmR {β : Type} {W : World} {base C q Bq Bn g cap B : Nat} (j : β → Nat) (h1 : W.heap.size ≤ B) (hC : C ≤ B) (hq : Bq < B) (hn : Bn < B) (hg : g < B) : OwnFrom B (fun (x : β) w => SmR W base C q Bq Bn g cap (j x) w) := fun s A D row h hgr hrow => by
  have st : ∀ {k : Nat} {o : Obj}, k < B → A.heap[k]? = some o → D.heap[k]? = some o := fun hk ho => (hgr.block _ (Array.getElem?_eq_some_iff.1 ho).1 (fun e => by have := (hrow _ e.symm).1; omega)).trans ho
  have hks : Keeps (fun k => B ≤ k) A D := ⟨hgr.os, hgr.tape, hgr.output, hgr.size, fun k hk hn => hgr.block k hk (fun e => hn (hrow k e.symm).1)⟩
  obtain ⟨M, hM, hl⟩ := h.qu
  refine ⟨⟨M, hM.keeps hks (fun k hk => Nat.le_trans hC hk), hl⟩, st hq h.bq, st hn h.bn, hks.row h.row (fun k hk hB => ?_), h.bel.grown hgr h.bel.size (fun k e => by have := (hrow k e).1; omega)⟩
  simp [Value.ownBlock] at hk
  omega
theorem keeps_kp {B : Nat} {W W' : World} (h : Keeps (fun k => k < B) W W') : KeepsFrom B W W' ∧ KpE (fun k => k < B) W W' :=
  ⟨⟨h.size, fun k o hB ho _ => (h.block k (Array.getElem?_eq_some_iff.1 ho).1 (by omega)).trans ho⟩, h.size, fun k cs fr hX ho => (h.block k (lt_of_block ho) hX).trans ho⟩
theorem SmR.step {W w1 w2 : World} {base C q D g cap j : Nat} {M' : List En} {M : List En} (h : SmR W base C q C D g cap j w1) (hM' : @QuB noWatch base C w2 q 5 M') (hl : M'.length + 1 = M.length) (hMj : M.length + j = 5)
    (hk1 : Keeps (fun k => k < C) (w1.setCell ⟨D, 0, none⟩ (.int .i64 ((j : Int) + 1))) w2) (hk2 : @KeepQ noWatch base q (w1.setCell ⟨D, 0, none⟩ (.int .i64 ((j : Int) + 1))) w2) (hD : D = C + 1) (hW : W.heap.size ≤ C) (hWb : W.heap.size ≤ base) (hs : w1.heap.size ≥ C) (hqi : ∃ cq, w1.heap[q]? = some (.cells cq 64 (0, 0))) (hbq : base ≤ q) :
    SmR W base C q C D g cap (j + 1) w2 := by
  have hn1 : (w1.setCell ⟨D, 0, none⟩ (.int .i64 ((j : Int) + 1))).heap[D]? = some (.cells #[.int .i64 ((j : Int) + 1)] 3 (0, 0)) := by
    rw [block_setCell' h.bn]
    rfl
  have hq1 : (w1.setCell ⟨D, 0, none⟩ (.int .i64 ((j : Int) + 1))).heap[C]? = _ := (Below.heap_setCell _ _ _ _ (show C ≠ D by omega)).trans h.bq
  have hset : Keeps (fun k => k = D) w1 (w1.setCell ⟨D, 0, none⟩ (.int .i64 ((j : Int) + 1))) := (Keeps.refl (fun k => k = D) w1).setCell (p := ⟨D, 0, none⟩) rfl _
  have hgt : ∃ cs, w1.heap[g]? = some (.cells cs 30 (0, 0)) := own_typed h.row rfl
  obtain ⟨cs, hcs⟩ := hgt
  have hgD : ¬ g = D := fun e => by rw [e, h.bn] at hcs; simp at hcs
  have hr1 := hset.row h.row (fun k hk => by simp [Value.ownBlock] at hk; subst hk; exact hgD)
  refine ⟨⟨M', hM', by omega⟩, hk1.obj hq1 (by omega), ?_, row_kept hr1 hk2 (fun k cs hc hS => ?_), ?_⟩
  · have := hk1.obj hn1 (by omega)
    rw [show ((j + 1 : Nat) : Int) = (j : Int) + 1 from by omega]
    exact this
  · rcases hS with hS | rfl
    · have := hS.2
      rw [hc] at this
      simp at this
    · obtain ⟨cq, hcq⟩ := hqi
      have hqD : k ≠ D := fun e => by rw [e, h.bn] at hcq; simp at hcq
      have := (Below.heap_setCell w1 ⟨D, 0, none⟩ (.int .i64 ((j : Int) + 1)) k hqD).trans hcq
      rw [this] at hc
      simp at hc
  · have h1 : Below W.heap.size W (w1.setCell ⟨D, 0, none⟩ (.int .i64 ((j : Int) + 1))) := h.bel.setCell (p := ⟨D, 0, none⟩) (by simp; omega) _
    exact h1.trans (Keeps.below hk2 h1.size (fun k hk => by
      rcases hk with hk | rfl
      · exact Nat.le_trans hWb hk.1.1
      · omega))
theorem row_first {w : World} {base g cap : Nat} (h : w.ownsRow base 30 2 (.slice (some ⟨g, 0, none⟩) 5 cap) 5 ((aL 5).flatMap ite)) : w.cell? ⟨g, 0, none⟩ = some (.int .i64 (ends.getD 4 0)) ∧ w.cell? ⟨g, 1, none⟩ = some (.int .i64 (ends.getD 0 0)) := by
  obtain ⟨g', cap', cur, hv, hb, hg, k1, k2, k3, k4⟩ := h.2.resolve_left (fun h => by simp at h)
  simp only [Value.slice.injEq, Option.some.injEq, Addr.mk.injEq] at hv
  obtain ⟨⟨rfl, -⟩, -, rfl⟩ := hv
  have e0 : cur.toList[0]? = some (.int .i64 (ends.getD 4 0)) := by
    have := congrArg (fun l => l[0]?) k4
    rw [List.getElem?_take_of_lt (by omega)] at this
    rw [this]; rfl
  have e1 : cur.toList[1]? = some (.int .i64 (ends.getD 0 0)) := by
    have := congrArg (fun l => l[1]?) k4
    rw [List.getElem?_take_of_lt (by omega)] at this
    rw [this]; rfl
  exact ⟨by rw [(block_cell' hg _).1]; simpa using e0, by rw [(block_cell' hg _).1]; simpa using e1⟩
theorem ddw_nil (w : World) : DdW w (.slice none 0 0) [] := ⟨⟨none, 0, 0, 0, rfl, Nat.le_refl _, Nat.zero_le _, fun _ => ⟨rfl, rfl⟩, (fun h => absurd h (by simp)), (fun e he => by simp at he), fun i hi => by simp at hi⟩, fun d hd => by simp at hd⟩
end Go.Proofs.Ytcpcgpanmoellaa
namespace Go.Proofs.Ytcpcgpanmoellaa
open Go.RowKit Go.Lib Go.Shelf
attribute [local go_sem] Oper.semAt_some

/-- while a row of things is laid. -/
structure SmC (W : World) (k : Nat) (v : Value) (wr : World) : Prop where
  ex : ∃ l : List (Int × Int), l.length = k ∧ (∀ x ∈ l, (kx x.2).wf = true) ∧ wr.ownsRow W.heap.size 30 2 v k (l.flatMap ite)
  bel : Below W.heap.size W wr
theorem ok_dd (a b c : Int) (h1 : -1000000 ≤ a) (h2 : a ≤ 1000000) (h3 : -1000000 ≤ c) (h4 : c ≤ 1000000) : DdOk ⟨a, b, c⟩ := ⟨kx_small h1 h2, kx_small h3 h4⟩
theorem ok8 (n : Nat) : ∀ d ∈ ([⟨1, 0, 0⟩, ⟨2, 0, (n : Int) % 5⟩, ⟨1, 0, 0⟩, ⟨0, (n : Int) % 3, (n : Int) % 5⟩, ⟨1, 0, 0⟩, ⟨1, 0, 0⟩, ⟨1, 0, 0⟩, ⟨1, 0, 0⟩] : List Dd), DdOk d := by
  intro d hd
  simp only [List.mem_cons, List.not_mem_nil, or_false] at hd
  rcases hd with rfl | rfl | rfl | rfl | rfl | rfl | rfl | rfl <;> exact ok_dd _ _ _ (by omega) (by omega) (by omega) (by omega)
theorem ok10 (n : Nat) : ∀ d ∈ ([⟨3, (n : Int) / 5 % 5 - 1, (n : Int) % 5⟩, ⟨1, 0, 0⟩, ⟨4, 0, 0⟩, ⟨3, 0, 9⟩, ⟨1, 0, 0⟩, ⟨5, 1, (n : Int) % 5⟩, ⟨1, 0, 0⟩, ⟨1, 0, 0⟩, ⟨1, 0, 0⟩, ⟨1, 0, 0⟩] : List Dd), DdOk d := by
  intro d hd
  simp only [List.mem_cons, List.not_mem_nil, or_false] at hd
  rcases hd with rfl | rfl | rfl | rfl | rfl | rfl | rfl | rfl | rfl | rfl <;> exact ok_dd _ _ _ (by omega) (by omega) (by omega) (by omega)
/-- while the things at the ends are laid. -/
structure SmE (W : World) (E k : Nat) (v : Value) (wr : World) : Prop where
  row : wr.ownsRow W.heap.size 30 2 v k ((aL k).flatMap ite)
  blk : wr.heap[E]? = some (.cells (iv ends).toArray 3 (0, 0))
  bel : Below W.heap.size W wr
set_option maxRecDepth 100000 in
set_option maxHeartbeats 8000000 in
theorem small_main (W : World) : Calls Try.prog 6 #[] W fun en w' => en = .returned (.bool true) ∧ Below W.heap.size W w' := by
  refine (callsIn_wide (n := 9)).1 ?_
  refine callsIn_of_wp_marks Try.func6 rfl trivial ?_ rfl
  simp only [Try.ntmps6, List.size_toArray, List.length_cons, List.length_nil, Nat.reduceAdd, Nat.reduceSub, Array.replicate_succ, Array.replicate_zero, List.push_toArray, List.append_toArray, List.nil_append, List.cons_append]
  refine wpIn_wide.2 (wp_mono (Q := noPanic (bodyPostM Fence.wide 9 Try.prog Try.f6 fun e w' => e = .returned (.bool true) ∧ Below W.heap.size W w')) ?_ (fun e a w h => noPanic_of h))
  obtain ⟨i0, hi0, hz0, hz1, hz2⟩ := info_parts Try.infoHItem
  go_wp2
  go_loopw [1] (fun i wr => ∃ n : Nat, n ≤ 243 ∧ i = .int .i64 n ∧ Below W.heap.size W wr) (fun i _ => 243 - (intOf i).toNat)
  case atStart => exact ⟨0, Nat.zero_le _, rfl, Below.refl _ _⟩
  case round =>
    obtain ⟨n, hn, rfl, hbel⟩ := hrel
    obtain ⟨wo, hwo⟩ : ∃ wo : World, wo = wr := ⟨_, rfl⟩
    subst hwo
    by_cases hlt : n < 243
    · have hlt2 : (n : Int) < 243 := by omega
      go_wp2
      go_loopw [2, 3, 4] (fun v m i wr => ∃ k j : Nat, k ≤ 5 ∧ j ≤ 243 ∧ i = .int .i64 k ∧ m = .int .i64 j ∧ SmC W k v wr) (fun _ _ i _ => 5 - (intOf i).toNat)
      case atStart => exact ⟨0, n, by omega, by omega, rfl, rfl, ⟨[], rfl, by simp, World.ownsRow_nil _ _ _ _⟩, hbel⟩
      case round =>
        obtain ⟨k, j, hk, hj, rfl, rfl, hs⟩ := hrel
        clear hbel
        by_cases hk5 : k < 5
        · have hk6 : (k : Int) < 5 := by omega
          obtain ⟨⟨l, hl, hw, hrow⟩, hb⟩ := hs
          have HL := Lib.hid hl
          have HW := Lib.hid hw
          have HR := Lib.hid hrow
          have HB := Lib.hid hb
          have hsz := hb.size
          clear hl hw hb
          go_wp2_with (at_builtin; refine wpList_append_own _ rfl (.tmp 22) (.tmp 27) 40 rfl W.heap.size 30 i0 _ 2 16 Try.underlying40 hi0 hz0 hz1 hz2 rfl (by decide) _ k _ rfl (hrow.alloc _) ⟨wr.heap.size, 0, none⟩ 1 1 [.int .i64 ((j : Int) % 3), .int .i64 k] rfl rfl (World.news_of_block (cs := #[.int .i64 ((j : Int) % 3), .int .i64 k]) (t := 30) (fr := (0, 0)) (heap_alloc_new wr _)) (by simp [Value.oneCell']) (by unfold maxLen; omega) (by omega) (by simp; omega) ?_; intro v' w1 hown' hgrow _)
          have HS2 := Lib.hid (show SmC W (k + 1) v' w1 from ⟨⟨l ++ [((j : Int) % 3, (k : Int))], by simp [HL.out], fun x hx => by
            rcases List.mem_append.1 hx with h | h
            · exact HW.out x h
            · simp at h
              subst h
              exact kx_small (by omega) (by omega), by rw [List.flatMap_append]; exact hown'⟩, HB.out.trans (((Below.refl W.heap.size wr).alloc (by omega) _).grown hgrow (by simp; omega) (fun r hr => (HR.out.lt r hr).1))⟩)
          clear hown' hgrow hrow
          go_wp2
          go_roundw
          case rel => exact ⟨k + 1, j / 3, by omega, by omega, by go_num, by go_num, HS2.out⟩
          case measure => simp [intOf]; omega
        · have hk7 : ¬ (k : Int) < 5 := by omega
          obtain ⟨⟨l, hl, hw, hrow⟩, hb⟩ := hs
          have HIt := Lib.hid (own_itw hl.symm hrow hw)
          have HL := Lib.hid hl
          have HB := Lib.hid hb
          obtain ⟨ao, cap, rfl⟩ := own_val hrow
          clear hl hw hrow hb
          go_upto_region 13 with (fail)
          refine gen_world (S := fun u => Below wr.heap.size wr u ∧ u.heap[wr.heap.size]? = some (.cells #[.int .i64 1, .int .i64 0, .int .i64 0] 54 (0, 0))) (one_new wr _) (fun u hu => ?_)
          obtain ⟨hbu, hxu⟩ := hu
          obtain ⟨x0, x1, x2, -⟩ := three_box hxu
          have HBu := Lib.hid hbu
          have HXu := Lib.hid hxu
          obtain ⟨X, hX⟩ : ∃ X, X = wr.heap.size := ⟨_, rfl⟩
          rw [← hX] at HXu x0 x1 x2 ⊢
          have HI2 := Lib.hid ((HIt.out.later hbu).later ((Below.refl _ _).alloc (Nat.le_refl _) (.cells #[.int .i64 1, .int .i64 0, .int .i64 0, .int .i64 2, .int .i64 0, .int .i64 ((n : Int) % 5), .int .i64 1, .int .i64 0, .int .i64 0, .int .i64 0, .int .i64 ((n : Int) % 3), .int .i64 ((n : Int) % 5), .int .i64 1, .int .i64 0, .int .i64 0, .int .i64 1, .int .i64 0, .int .i64 0, .int .i64 1, .int .i64 0, .int .i64 0, .int .i64 1, .int .i64 0, .int .i64 0] 54)))
          have HD1 := Lib.hid (heapDoes_main _ _ _ l _ HI2.out (blk8 (heap_alloc_new u _) (ok8 n)) (by rw [HL.out]; omega) (by simp))
          clear hbu hxu hX HIt
          go_wp2_with fail
          refine HD1.out.mono ?_
          rintro e w2 ⟨rfl, hb2⟩
          have hb3 : Below u.heap.size u w2 := ((Below.refl _ _).alloc (Nat.le_refl _) _).trans (hb2.mono (by simp))
          have HB3 := Lib.hid hb3
          have HX2 := Lib.hid ((hb3.block _ (lt_of_block HXu.out)).trans HXu.out)
          have HI3 := Lib.hid ((HI2.out.later hb2).later ((Below.refl _ _).alloc (Nat.le_refl _) (.cells #[.int .i64 3, .int .i64 ((n : Int) / 5 % 5 - 1), .int .i64 ((n : Int) % 5), .int .i64 1, .int .i64 0, .int .i64 0, .int .i64 4, .int .i64 0, .int .i64 0, .int .i64 3, .int .i64 0, .int .i64 9, .int .i64 1, .int .i64 0, .int .i64 0, .int .i64 5, .int .i64 1, .int .i64 ((n : Int) % 5), .int .i64 1, .int .i64 0, .int .i64 0, .int .i64 1, .int .i64 0, .int .i64 0, .int .i64 1, .int .i64 0, .int .i64 0, .int .i64 1, .int .i64 0, .int .i64 0] 54)))
          have HD2 := Lib.hid (heapDoes_main _ _ _ l _ HI3.out (blk10 (heap_alloc_new w2 _) (ok10 n)) (by rw [HL.out]; omega) (by simp))
          clear hb2 hb3 HD1 HI2 x0 x1 x2
          obtain ⟨x0, x1, x2, -⟩ := three_box HX2.out
          go_wp2_with fail
          refine HD2.out.mono ?_
          rintro e w3 ⟨rfl, hb3⟩
          have HB4 := Lib.hid (show Below W.heap.size W w3 from HB.out.trans ((HBu.out.trans ((HB3.out.trans ((((Below.refl _ _).alloc (Nat.le_refl _) _).trans (hb3.mono (by simp))).mono HB3.out.size)).mono HBu.out.size)).mono HB.out.size))
          clear hb3 x0 x1 x2 HD2 HI3
          go_wp2_with fail
          go_roundw
          case rel => exact ⟨n + 1, by omega, by go_num, HB4.out⟩
          case measure => simp [intOf]; omega
    · have hn3 : ¬ (n : Int) < 243 := by omega
      have HB := Lib.hid hbel
      clear hbel
      go_upto_region 16 with (fail)
      refine gen_world (S := fun u => Below wo.heap.size wo u ∧ u.heap[wo.heap.size]? = some (.cells (iv ends).toArray 3 (0, 0))) ⟨(one_new wo _).1, heap_alloc_new wo _⟩ (fun u hu => ?_)
      obtain ⟨hbu, hxu⟩ := hu
      obtain ⟨E, hE⟩ : ∃ E, E = wo.heap.size := ⟨_, rfl⟩
      have HS0 := Lib.hid (show SmE W E 0 (.slice none 0 0) u from ⟨World.ownsRow_nil _ _ _ _, by rw [hE]; exact hxu, HB.out.trans (hbu.mono HB.out.size)⟩)
      rw [← hE]
      clear hbu hxu hE
      go_wp2
      go_loopw [8, 9] (fun v i wr => ∃ k : Nat, k ≤ 5 ∧ i = .int .i64 k ∧ SmE W E k v wr) (fun _ i _ => 5 - (intOf i).toNat)
      case atStart => exact ⟨0, Nat.zero_le _, rfl, HS0.out⟩
      case round =>
        obtain ⟨k, hk, rfl, hs⟩ := hrel
        by_cases hlt : k < 5
        · have hlt2 : (k : Int) < 5 := by omega
          have cA := ends_cell hs.blk (i := 4 - k) (by omega)
          have cB := ends_cell hs.blk (i := k) hlt
          obtain ⟨a, ha⟩ : ∃ a, a = ends.getD (4 - k) 0 := ⟨_, rfl⟩
          obtain ⟨b, hb⟩ : ∃ b, b = ends.getD k 0 := ⟨_, rfl⟩
          rw [← ha] at cA
          rw [← hb] at cB
          have HAB := Lib.hid (And.intro ha hb)
          have HS := Lib.hid hs
          have HRow := Lib.hid hs.row
          have hsz := hs.bel.size
          have q1 : (0 : Int) ≤ 4 - (k : Int) := by omega
          have q2 : 4 - (k : Int) < 5 := by omega
          have q4 : (0 : Int) ≤ (k : Int) := by omega
          have q5 : k ≤ 4 := by omega
          have q7 : (k : Int) ≤ 4 := by omega
          have hEl := lt_of_block hs.blk
          have q3 : (4 - (k : Int)).toNat = 4 - k := by omega
          have q6 : IntKind.i64.wrap (4 - (k : Int)) = 4 - (k : Int) := IntWalk.i64_in _ (by omega)
          clear ha hb hs
          go_upto_region 20 with (fail)
          go_region_law (refine step_append_lies _ (by rfl) _ _ _ (by rfl) W.heap.size 30 i0 _ 2 16 Try.underlying40 hi0 hz0 hz1 hz2 rfl (by omega) _ k _ (by rfl) (((Keeps.drew (Keeps.refl (fun _ => False) wr)).row HRow.out (fun _ _ h => h)).alloc _) ⟨wr.heap.size, 0, none⟩ 1 1 [.int .i64 a, .int .i64 b] (by rfl) (by rfl) (World.news_of_block (cs := #[.int .i64 a, .int .i64 b]) (t := 30) (fr := (0, 0)) (heap_alloc_new wr.drew _)) (by simp [Value.oneCell']) (by omega) (by unfold maxLen; omega) (by omega) (by simp; omega) (wr.heap.size + 1) (by simp) ?_; intro g cap w1 hown' hgrow hat hlt3)
          all_goals
            have hrd : wr.drew.ownsRow W.heap.size 30 2 _ k ((aL k).flatMap ite) := ((Keeps.drew (Keeps.refl (fun _ => False) wr)).row HRow.out (fun _ _ h => h))
            have HS2 := Lib.hid (show SmE W E (k + 1) (.slice (some ⟨g, 0, none⟩) (k + 1) cap) w1 from ⟨by rw [aL_succ, List.flatMap_append, ← HAB.out.1, ← HAB.out.2]; exact hown', block_grown (w := wr.drew) HS.out.blk (by decide) hrd hgrow, HS.out.bel.trans (((((Below.refl W.heap.size wr).drew).alloc (by simpa using hsz) _).grown hgrow (by simp; omega) (fun r hr => (HRow.out.lt r hr).1)))⟩)
            clear hown' hgrow hat hlt3 hrd
            go_wp2
            go_roundw
            case rel => exact ⟨k + 1, by omega, by go_num, HS2.out⟩
            case measure => simp [intOf]; omega
        · have hk5 : k = 5 := by omega
          have hk6 : ¬ (k : Int) < 5 := by omega
          rw [hk5] at hs
          obtain ⟨g, cap, rfl⟩ := own_shape hs.row (by omega)
          have HIt := Lib.hid (own_it (by rw [aL_len]) hs.row)
          have HRow := Lib.hid hs.row
          have HBel := Lib.hid hs.bel
          have hnew := quNew (base := wr.heap.size) (l := aL 5) wr (Nat.le_refl _) (Nat.zero_le _) HIt.out (aL_wf 5) (by rw [aL_len]; omega) aL_put.1
          rw [aL_put.2.2] at hnew
          have HNew := Lib.hid hnew
          clear hs hnew hk5
          go_wp2_with fail
          refine HNew.out.mono ?_
          rintro en w2 ⟨q, rfl, -, hq, hb2⟩
          have HQ := Lib.hid hq
          have HB2 := Lib.hid hb2
          clear hq hb2 HNew
          go_upto_region 23 with (fail)
          refine gen_world (S := fun u => Below w2.heap.size w2 u ∧ u.heap[w2.heap.size]? = some (.cells #[.pointer (some ⟨q, 0, none⟩)] 24 (0, 0)) ∧ u.heap[w2.heap.size + 1]? = some (.cells #[.int .i64 0] 3 (0, 0))) (two_new w2 _ _) (fun u hu => ?_)
          obtain ⟨hbu, hx, hy⟩ := hu
          obtain ⟨C, hC⟩ : ∃ C, C = w2.heap.size := ⟨_, rfl⟩
          obtain ⟨D, hD⟩ : ∃ D, D = w2.heap.size + 1 := ⟨_, rfl⟩
          have hQB : @QuB noWatch wr.heap.size C u q 5 (putQ 0 [] (aL 5)).2.2 := by
            rw [hC]
            exact QuB.later HQ.out.quB hbu
          have HR0 := Lib.hid (show SmR W wr.heap.size C q C D g cap 0 u from ⟨⟨_, hQB, by rw [aL_put.2.1]⟩, by rw [hC]; exact hx, by rw [hD]; exact hy, by
            have h1 := (Keeps.ofNew HB2.out (fun _ => False)).row HRow.out (fun _ _ h => h)
            exact (Keeps.ofNew hbu (fun _ => False)).row h1 (fun _ _ h => h), HBel.out.trans ((HB2.out.trans (hbu.mono HB2.out.size)).mono HBel.out.size)⟩)
          rw [← hC, show C + 1 = D from by omega]
          have HCD := Lib.hid (And.intro (show C < u.heap.size from by rw [hC]; exact lt_of_block hx) (And.intro (show D < u.heap.size from by rw [hD]; exact lt_of_block hy) (show g < u.heap.size from Nat.lt_of_lt_of_le (HRow.out.lt g rfl).2 (Nat.le_trans HB2.out.size hbu.size))))
          have HCs := Lib.hid (show W.heap.size ≤ C ∧ D = C + 1 from ⟨by rw [hC]; exact Nat.le_trans HBel.out.size HB2.out.size, by omega⟩)
          have hc0 := (block_cell' HR0.out.bq 0).1
          clear hbu hx hy hC hD hQB
          go_wp2_with fail
          refine (qAll_any (some ⟨q, 0, none⟩) u).mono ?_
          rintro e w' ⟨rfl, rfl⟩
          clear hc0
          go_wp2_with fail
          have hal := (Below.refl u.heap.size u).alloc (Nat.le_refl _) (.cells #[.pointer (some ⟨q, 0, none⟩)] 24)
          obtain ⟨Ba, hBa⟩ : ∃ Ba, Ba = u.heap.size := ⟨_, rfl⟩
          have HBa := Lib.hid (show (u.alloc (.cells #[.pointer (some ⟨q, 0, none⟩)] 24)).heap[Ba]? = some (.cells #[.pointer (some ⟨q, 0, none⟩)] 24 (0, 0)) from by rw [hBa]; exact heap_alloc_new u _)
          have HR9 := Lib.hid (show SmR W wr.heap.size C q C D g cap 0 (u.alloc (.cells #[.pointer (some ⟨q, 0, none⟩)] 24)) from by
            obtain ⟨M, hM, hl⟩ := HR0.out.qu
            exact ⟨⟨M, hM.later hal, hl⟩, (hal.block _ (lt_of_block HR0.out.bq)).trans HR0.out.bq, (hal.block _ (lt_of_block HR0.out.bn)).trans HR0.out.bn, (Keeps.ofNew hal (fun _ => False)).row HR0.out.row (fun _ _ h => h), HR0.out.bel.trans (hal.mono HR0.out.bel.size)⟩)
          have HSz := Lib.hid (show u.heap.size ≤ (u.alloc (.cells #[.pointer (some ⟨q, 0, none⟩)] 24)).heap.size from hal.size)
          have HQw := Lib.hid (show C ≤ u.heap.size from by have := HCD.out.1; omega)
          have hbase := HBel.out.size
          have HBase := Lib.hid hbase
          rw [← hBa]
          generalize u.alloc (.cells #[.pointer (some ⟨q, 0, none⟩)] 24) = w9 at HR9 HBa HSz ⊢
          clear hal hBa hbase
          obtain ⟨M0, hM0, hl0⟩ := HR9.out.qu
          have HM0 := Lib.hid hM0
          have HL0 := Lib.hid hl0
          clear hM0 hl0
          refine (wpIn_wide (n := 9)).1 ?_
          refine range_skip (by omega) (gf := 31) (lb := #[.pointer (some ⟨Ba, 0, none⟩)]) rfl (enters_of Try.func31 (by kernel_rfl) rfl) itv
            (qall_stops 8 (by omega) Ba wr.heap.size q 5 M0 (fun k => k < w9.heap.size) w9 24 (fun _ h => h) HBa.out HM0.out.qu)
            (KpE.refl _) KpE.trans kpE_b
            (fun pre W' => pre.length ≤ 2 ∧ SmR W wr.heap.size C q C D g cap pre.length W')
            (fun c pre W' => (c = .exit 6 ∧ pre.length = 3) ∧ SmR W wr.heap.size C q C D g cap pre.length W')
            (fun s A C' row h hg hrow => ⟨h.1, own_SmR (β := List En) List.length (by have := HCs.out.1; have := HCD.out.1; have := HSz.out; omega) (by have := HCD.out.1; have := HSz.out; omega) (by have := HCD.out.1; have := HSz.out; omega) (by have := HCD.out.2.1; have := HSz.out; omega) (by have := HCD.out.2.2; have := HSz.out; omega) s A C' row h.2 hg hrow⟩)
            (fun c s A C' row h hg hrow => ⟨h.1, own_SmR (β := List En) List.length (by have := HCs.out.1; have := HCD.out.1; have := HSz.out; omega) (by have := HCD.out.1; have := HSz.out; omega) (by have := HCD.out.1; have := HSz.out; omega) (by have := HCD.out.2.1; have := HSz.out; omega) (by have := HCD.out.2.2; have := HSz.out; omega) s A C' row h.2 hg hrow⟩)
            ⟨Nat.zero_le _, HR9.out⟩ ?body ?done ?stop
          case done =>
            rintro D2 xs W' hD ⟨hp, -⟩ ⟨hle, hs⟩ -
            have h1 := hp.length_eq
            have h2 := HL0.out
            omega
          case body =>
            rintro l2 pre x W' hl ⟨hp, hs⟩ hlen
            simp only [List.setIfInBounds_toArray, List.set_cons_zero, List.set_cons_succ]
            obtain ⟨j, hj⟩ : ∃ j, j = pre.length := ⟨_, rfl⟩
            have HPl := Lib.hid (show (pre ++ [x]).length = j + 1 from by simp [hj])
            rw [← hj] at hp hs
            have cN := (block_cell' hs.bn 0).1
            have fN := (block_cell' hs.bn 0).2
            have cQ := (block_cell' hs.bq 0).1
            obtain ⟨M, hM, hMl⟩ := hs.qu
            have hset : Keeps (fun k => k = D) W' (W'.setCell ⟨D, 0, none⟩ (.int .i64 ((j : Int) + 1))) := (Keeps.refl (fun k => k = D) W').setCell (p := ⟨D, 0, none⟩) rfl _
            have HTk := Lib.hid (quTakeC (W'.setCell ⟨D, 0, none⟩ (.int .i64 ((j : Int) + 1))) (hM.keeps hset (fun k hk => by have := HCs.out.2; omega)) (fun e => by rw [e] at hMl; simp at hMl; omega) (by have := lt_of_block hs.bq; simp; omega))
            have HS := Lib.hid hs
            have HM := Lib.hid hM
            have HMl := Lib.hid hMl
            have hCD : ¬ D = C := by have := HCs.out.2; omega
            have hCD2 : ¬ C = D := by omega
            have HSet := Lib.hid hset
            have HlenX := Lib.hid hlen
            clear hj hs hM hMl hset hlen
            have hkB : ∀ W2, Keeps (fun k => k < C) (W'.setCell ⟨D, 0, none⟩ (.int .i64 ((j : Int) + 1))) W2 → Keeps (fun k => k < w9.heap.size) W' W2 := fun W2 hk => (HSet.out.mono (fun k _ e => by have := HCD.out.2.1; have := HSz.out; omega)).trans (hk.mono (fun k _ e => by have := HCD.out.1; have := HSz.out; omega))
            have HKB := Lib.hid hkB
            have hstep : ∀ W2 M', @QuB noWatch wr.heap.size C W2 q 5 M' → M'.length + 1 = M.length → Keeps (fun k => k < C) (W'.setCell ⟨D, 0, none⟩ (.int .i64 ((j : Int) + 1))) W2 → @KeepQ noWatch wr.heap.size q (W'.setCell ⟨D, 0, none⟩ (.int .i64 ((j : Int) + 1))) W2 → SmR W wr.heap.size C q C D g cap (j + 1) W2 := fun W2 M' a1 a2 a3 a4 => HS.out.step a1 a2 HMl.out a3 a4 HCs.out.2 HCs.out.1 HBase.out (Nat.le_of_lt (lt_of_block HS.out.bq)) HM.out.qu.qblk HM.out.qu.base
            have HStep := Lib.hid hstep
            clear hkB hstep
            by_cases hj2 : j = 2
            · have hq : ((j : Int) + 1 == 3) = true := by simp; omega
              have HJ := Lib.hid hj2
              clear hj2
              gi_wp2_with (refine ⟨trivial, ?_⟩; gi_at_call 13; refine (callsIn_wide.2 HTk.out).mono ?_; rintro e W2 ⟨⟨a, b, rfl⟩, ⟨M', hM', hl'⟩, hk1, hk2⟩; have HSt := Lib.hid (HStep.out W2 M' hM' hl' hk1 hk2); have HKp := Lib.hid (keeps_kp (HKB.out W2 hk1)); have cN2 : W2.cell? ⟨D, 0, none⟩ = some (.int .i64 ((j : Int) + 1)) := (block_cell' HSt.out.bn 0).1; clear cN fN cQ hM' hl' hk1 hk2)
              exact ⟨HKp.out.1, ⟨rfl, by rw [HPl.out, HJ.out]⟩, by rw [HPl.out]; exact HSt.out⟩
            · have hq : ((j : Int) + 1 == 3) = false := by simp; omega
              have HJ := Lib.hid hj2
              clear hj2
              gi_wp2_with (refine ⟨trivial, ?_⟩; gi_at_call 13; refine (callsIn_wide.2 HTk.out).mono ?_; rintro e W2 ⟨⟨a, b, rfl⟩, ⟨M', hM', hl'⟩, hk1, hk2⟩; have HSt := Lib.hid (HStep.out W2 M' hM' hl' hk1 hk2); have HKp := Lib.hid (keeps_kp (HKB.out W2 hk1)); have cN2 : W2.cell? ⟨D, 0, none⟩ = some (.int .i64 ((j : Int) + 1)) := (block_cell' HSt.out.bn 0).1; clear cN fN cQ hM' hl' hk1 hk2)
              exact ⟨HKp.out.1, HKp.out.2, by have := HJ.out; rw [HPl.out]; omega, by rw [HPl.out]; exact HSt.out⟩
          case stop =>
            rintro D2 c pre W' hD - ⟨⟨rfl, hp3⟩, hs⟩ hKD
            rw [hp3] at hs
            refine wpIn_wide.2 ?_
            obtain ⟨M, hM, hMl⟩ := hs.qu
            have hln := quLen W' hM.qu
            rw [show M.length = 2 from by omega] at hln
            have HLn := Lib.hid hln
            have HS := Lib.hid hs
            have HKD := Lib.hid hKD
            have cN := (block_cell' hs.bn 0).1
            have cQ := (block_cell' hs.bq 0).1
            obtain ⟨a, ha⟩ : ∃ a, a = ends.getD 4 0 := ⟨_, rfl⟩
            obtain ⟨b, hb⟩ : ∃ b, b = ends.getD 0 0 := ⟨_, rfl⟩
            obtain ⟨cA, cB⟩ := row_first hs.row
            rw [← ha] at cA
            rw [← hb] at cB
            have hrow := hs.row
            have hsz := hs.bel.size
            have HAB := Lib.hid (And.intro ha hb)
            clear hs hKD hM hMl hln ha hb hp3
            go_wp2_with fail
            refine HLn.out.mono ?_
            rintro en w' ⟨rfl, rfl⟩
            go_wp2_with (at_builtin; refine wpList_append_keep (by rfl) (.tmp 112) (.tmp 116) 40 rfl W.heap.size 30 i0 _ 2 16 Try.underlying40 hi0 hz0 hz1 hz2 rfl (by decide) g 5 cap _ rfl (hrow.alloc _) ⟨W'.heap.size, 0, none⟩ 1 1 [.int .i64 a, .int .i64 b] rfl rfl (World.news_of_block (cs := #[.int .i64 a, .int .i64 b]) (t := 30) (fr := (0, 0)) (heap_alloc_new W' _)) (by simp [Value.oneCell']) (by unfold maxLen; omega) (by omega) (by simp; omega) ?_; intro v' w1 hown' hold hgrow)
            have HB1 := Lib.hid (show Below W.heap.size W w1 from HS.out.bel.trans (((Below.refl W.heap.size W').alloc hsz _).grown hgrow (by simp; omega) (fun r hr => by cases hr; exact (HS.out.row.lt g rfl).1)))
            have hgT : ∃ cs, W'.heap[g]? = some (.cells cs 30 (0, 0)) := own_typed HS.out.row rfl
            have HK1 := Lib.hid (show w1.heap[D2]? = some (.deferred (some [])) from (hgrow.block _ (by have := (Array.getElem?_eq_some_iff.1 HKD.out).1; simp; omega) (fun e => by
              obtain ⟨cs, hcs⟩ := hgT
              simp only [Option.some.injEq] at e
              rw [← e, HKD.out] at hcs
              simp at hcs)).trans ((Below.heap_alloc _ _ _ (Array.getElem?_eq_some_iff.1 HKD.out).1).trans HKD.out))
            have HIt1 := Lib.hid (show ItW w1 v' (aL 5 ++ [(a, b)]) from own_itw (n := 5 + 1) (by simp [aL_len]) (by rw [List.flatMap_append]; exact hown') (fun x hx => by
              rcases List.mem_append.1 hx with h | h
              · exact aL_wf 5 x h
              · simp at h
                subst h
                rw [HAB.out.2]
                exact ends_wf 0))
            have HD1 := Lib.hid (heapDoes_main w1 v' (.slice none 0 0) _ _ HIt1.out (ddw_nil w1) (by simp [aL_len]) (by simp))
            have HOld := Lib.hid hold
            clear hown' hold hgrow hrow hgT cA cB cN cQ
            refine HD1.out.mono ?_
            rintro e w3 ⟨rfl, hb3⟩
            have HB3 := Lib.hid (HB1.out.trans (hb3.mono HB1.out.size))
            have HK3 := Lib.hid ((hb3.block _ (Array.getElem?_eq_some_iff.1 HK1.out).1).trans HK1.out)
            have hold3 : w3.ownsRow W.heap.size 30 2 (.slice (some ⟨g, 0, none⟩) 5 cap) 5 ((aL 5).flatMap ite) := (Keeps.ofNew hb3 (fun _ => False)).row HOld.out (fun _ _ h => h)
            have HI3 := Lib.hid ((own_itw (n := 5) (by simp [aL_len]) hold3 (aL_wf 5)).later ((Below.refl w3.heap.size w3).alloc (Nat.le_refl _) (.cells #[.int .i64 1, .int .i64 0, .int .i64 0, .int .i64 3, .int .i64 (-9223372036854775808), .int .i64 0, .int .i64 1, .int .i64 0, .int .i64 0, .int .i64 1, .int .i64 0, .int .i64 0] 54)))
            have HD3 := Lib.hid (heapDoes_main _ _ _ (aL 5) _ HI3.out (blk4 (heap_alloc_new w3 _) (by
              intro d hd
              simp only [List.mem_cons, List.not_mem_nil, or_false] at hd
              rcases hd with rfl | rfl | rfl | rfl <;> exact ok_dd _ _ _ (by omega) (by omega) (by omega) (by omega))) (by rw [aL_len]; omega) (by simp))
            clear hb3 hold3 HD1 HIt1
            go_wp2_with fail
            refine HD3.out.mono ?_
            rintro e w4 ⟨rfl, hb4⟩
            have hb34 : Below w3.heap.size w3 w4 := ((Below.refl _ _).alloc (Nat.le_refl _) _).trans (hb4.mono (by simp))
            have HB4 := Lib.hid (HB3.out.trans (hb34.mono HB3.out.size))
            have HK4 := Lib.hid ((hb34.block _ (Array.getElem?_eq_some_iff.1 HK3.out).1).trans HK3.out)
            clear hb4 hb34 HD3 HI3
            go_wp2_with fail
            refine (none_any w4).mono ?_
            rintro e w5 ⟨rfl, hb5⟩
            have HB5 := Lib.hid (HB4.out.trans (hb5.mono HB4.out.size))
            have HK5 := Lib.hid ((hb5.block _ (Array.getElem?_eq_some_iff.1 HK4.out).1).trans HK4.out)
            clear hb5
            go_wp2_with fail
            refine (awake_any w5).mono ?_
            rintro e w6 ⟨rfl, hb6⟩
            have HB6 := Lib.hid (HB5.out.trans (hb6.mono HB5.out.size))
            have HK6 := Lib.hid ((hb6.block _ (Array.getElem?_eq_some_iff.1 HK5.out).1).trans HK5.out)
            clear hb6
            go_wp2_with fail
            have hDW : W.heap.size ≤ D2 := by have := HCs.out.1; have := HCD.out.1; have := HSz.out; omega
            refine ⟨by simp, .inl ⟨_, _, rfl, run_takeDeferred HK6.out, ?_⟩⟩
            exact ⟨.bool true, by simp [results, Try.f6, go_sem], rfl, HB6.out.trans (belowK_b (w := W) (Nat.le_refl _) _ D2 _ _ hDW HK6.out rfl rfl)⟩
end Go.Proofs.Ytcpcgpanmoellaa
