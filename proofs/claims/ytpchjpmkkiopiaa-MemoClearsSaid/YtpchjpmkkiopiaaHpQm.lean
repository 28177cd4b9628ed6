import Derived.Test.YtpchjpmkkiopiaaHpZm
namespace Go.Proofs.Ytpchjpmkkiopiaa
open Go.RowKit Go.Lib

theorem step_delete {P : Program} {ops : Array Oper} {o : Oper} {a : Act} {w : World} {K : Act → World → Prop} {Q : Exit → Act → World → Prop} {E : Prop}
    (hg : o.guard = none) (m x : Operand) (t k : TypeId) (hop : o.op = Op.call { callee := Callee.builtin Builtin.delete, args := #[m, x], argTypes := #[t, k] })
    (vm vx : Value) (hm : a.eval m = vm) (hx : a.eval x = vx) (w' : World) (hrun : (Builtin.delete_ #[t, k] o.type #[vm, vx]).run P w = .ok (.tuple #[]) w')
    (hK : K (a.put o.dst (.tuple #[])) w') :
    if Region.wanted o (yielded ops a.tmps) = true then Oper.wp P o a w K Q else E := by
  have hw : Region.wanted o (yielded ops a.tmps) = true := by simp [Region.wanted, hg]
  rw [if_pos hw]
  unfold Oper.wp
  simp [execOp, hop, resolve, invoke, builtin, hm, hx, hrun, Result.andThen]
  exact hK

theorem whr_pop {L : List En} (ho : Once L) {n1 : Nat} (hn : L.length = n1 + 1) (x : Int) : whr (L.take n1) x = setF (whr L) (pos L n1).name none x := by
  have ht : (L.take n1).length = n1 := by simp; omega
  have hp : ∀ k, k < n1 → pos (L.take n1) k = pos L k := fun k hk => by
    rw [pos_get (by omega), pos_get (by omega), List.getElem_take]
  have ho' : Once (L.take n1) := by
    unfold Once at ho ⊢
    rw [List.map_take]
    exact (List.take_sublist _ _).nodup ho
  unfold setF
  by_cases hx : x = (pos L n1).name
  · rw [if_pos hx]
    refine whr_none fun k hk e => ?_
    rw [ht] at hk
    rw [hp k hk, hx] at e
    have e1 := whr_some ho (by omega : k < L.length) e
    have e2 := whr_some ho (by omega : n1 < L.length) rfl
    rw [e1] at e2
    simp at e2
    omega
  · rw [if_neg hx]
    cases hw : whr L x with
    | none => exact whr_none fun k hk => by rw [ht] at hk; rw [hp k hk]; exact whr_not hw k (by omega)
    | some k =>
      obtain ⟨hk, hkx⟩ := whr_is hw
      have hk1 : k < n1 := by
        rcases Nat.lt_or_ge k n1 with h | h
        · exact h
        · have : k = n1 := by omega
          subst this
          exact absurd hkx.symm hx
      exact whr_some ho' (by rw [ht]; exact hk1) (by rw [hp k hk1]; exact hkx)
theorem flat_take : ∀ (L : List En) (n : Nat), (L.flatMap enc).take (n * 3) = (L.take n).flatMap enc
  | [], n => by simp
  | a :: r, 0 => by simp
  | a :: r, n + 1 => by
    have ih := flat_take r n
    have e1 : (n + 1) * 3 = n * 3 + 3 := by omega
    simp only [List.flatMap_cons, List.take_succ_cons, e1, ← ih]
    simp [enc]
theorem row_take {w : World} {base g n cap n1 : Nat} {t : TypeId} {L : List En} (h : w.ownsRow base t 3 (.slice (some ⟨g, 0, none⟩) n cap) n (L.flatMap enc)) (hn : n1 ≤ n) : w.ownsRow base t 3 (.slice (some ⟨g, 0, none⟩) n1 cap) n1 ((L.take n1).flatMap enc) := by
  have hl : L.length = n := by have := h.1; rw [flat_len enc_len] at this; omega
  obtain ⟨g', cap', cur, hv, hb, hg, h1, h2, h3, ht⟩ := h.2.resolve_left (fun h => by simp at h)
  simp only [Value.slice.injEq, Option.some.injEq, Addr.mk.injEq] at hv
  obtain ⟨⟨rfl, -⟩, -, rfl⟩ := hv
  refine ⟨by rw [flat_len enc_len]; simp; omega, .inr ⟨g, cap, cur, rfl, hb, hg, by omega, h2, h3, ?_⟩⟩
  rw [← flat_take, ← ht, List.take_take]
  congr 1
  omega
set_option maxRecDepth 100000 in
set_option maxHeartbeats 2000000 in
theorem rPop_any [Watch] {base r m : Nat} {lv : Value} {L : List En} {n1 : Nat} (w : World) (h : RowIs base w r m lv L) (hn : L.length = n1 + 1) :
    Calls Try.prog 118 #[.pointer (some ⟨r, 0, none⟩)] w fun e w' => e = .returned (.iface 136 (env (pos L n1))) ∧ ∃ lv', RowIs base w' r m lv' (L.take n1) ∧ KeepH base w w' ∧ lv'.ownBlock = lv.ownBlock := by
  have H := Lib.hid h
  have Hn := Lib.hid hn
  have hr := h.row
  have hle := h.le
  obtain ⟨c0, c1, f0⟩ := h.cells
  obtain ⟨g, cap, rfl⟩ := own_shape hr (by omega)
  obtain ⟨⟨a0, a1, a2⟩, -⟩ := row3 hr n1 (by omega)
  have hcap : n1 + 1 ≤ cap := by
    obtain ⟨g', cap', cur, hv, -, -, h1, -⟩ := hr.2.resolve_left (fun h => by simp at h)
    simp only [Value.slice.injEq] at hv
    rw [hn] at h1
    omega
  rw [hn] at c0
  obtain ⟨n, hn2⟩ : ∃ n, n = n1 + 1 := ⟨_, rfl⟩
  rw [← hn2] at c0
  have hw : IntKind.i64.wrap ((n : Int) - 1) = (n1 : Int) := (IntWalk.i64_in _ (by omega)).trans (by omega)
  have hkn : (n1 : Int) < n := by omega
  have hkc : (n1 : Int) ≤ cap := by omega
  have hkc2 : n1 ≤ cap := by omega
  have HR := Lib.hid hr
  obtain ⟨e, he⟩ : ∃ e, e = pos L n1 := ⟨_, rfl⟩
  rw [← he] at a0 a1 a2 ⊢
  have HE := Lib.hid he
  clear h hr hle hn hcap hn2 he
  go_enter Try.func118, Try.ntmps118
  go_upto_region 1 with (fail)
  have hal := (one_new w (.cells #[.int .i64 0, .int .i64 0, .int .i64 0] 136 (0, 0))).1
  have c0' := cell_later hal c0
  have a0' := cell_later hal a0
  have a1' := cell_later hal a1
  have a2' := cell_later hal a2
  go_region
  all_goals go_upto_region 2 with (fail)
  obtain ⟨hb1, hx1⟩ := one_new w (.cells #[.int .i64 e.key, .int .i64 e.name, .int .i64 e.turn] 136 (0, 0))
  refine gen_world (S := fun u => Below w.heap.size w u ∧ u.heap[w.heap.size]? = some (.cells #[.int .i64 e.key, .int .i64 e.name, .int .i64 e.turn] 136 (0, 0))) ⟨hb1.drew, hx1⟩ (fun u hu => ?_)
  obtain ⟨hbu, hxu⟩ := hu
  have HU := Lib.hid (H.out.later hbu)
  have HB := Lib.hid hbu
  have HX := Lib.hid hxu
  have hXr : w.heap.size ≠ r := by have := lt_of_block H.out.blk; omega
  obtain ⟨X, hX⟩ : ∃ X, X = w.heap.size := ⟨_, rfl⟩
  rw [← hX] at HX hXr ⊢
  have HXr := Lib.hid hXr
  have hbl := HU.out.blk
  rw [Hn.out] at hbl
  obtain ⟨d0, d1⟩ := two_box hbl
  have df : u.frozen? ⟨r, 0, none⟩ = false := (block_cell' hbl 0).2
  have hnn : n = n1 + 1 := by have := hkn; have e1 := two_box H.out.blk; rw [Hn.out] at e1; rw [c0] at e1; simpa using e1.1
  rw [← hnn] at d0
  clear hnn
  clear hb1 hx1 hbu hxu hX hXr c0 c1 f0 a0 a1 a2 hal c0' a0' a1' a2' hbl
  go_region
  all_goals go_upto_region 3 with (fail)
  have hks : Keeps (fun k => k = r) u (u.setCell ⟨r, 0, none⟩ (.slice (some ⟨g, 0, none⟩) n1 cap)).drew := ((Keeps.refl (fun k => k = r) u).setCell (p := ⟨r, 0, none⟩) rfl _).drew
  refine gen_world (S := fun v => Keeps (fun k => k = r) u v ∧ v.heap[r]? = some (.cells #[.slice (some ⟨g, 0, none⟩) n1 cap, .map (some m)] 110 (0, 0))) ⟨hks, block_setCell' HU.out.blk⟩ (fun u2 hu => ?_)
  obtain ⟨hk2, hr2⟩ := hu
  have hmr : m ≠ r := fun e => by obtain ⟨D, ⟨es, clock, h1, -⟩, -⟩ := H.out.fn; rw [e, H.out.blk] at h1; simp at h1
  have hfn := HU.out.fn.keeps hk2 hmr
  have hwf := H.out.wf e (by rw [HE.out, pos_get (by rw [Hn.out]; omega)]; exact List.getElem_mem _)
  obtain ⟨u3, hrun, hm3, hk3⟩ := (hfn.of_block (w' := u2.drew) rfl).del hwf 0
  have hx2 := hk2.obj HX.out HXr.out
  obtain ⟨y0, y1, y2, -⟩ := three_box hx2
  obtain ⟨-, z1⟩ := two_box hr2
  have hxm : X ≠ m := fun e => by obtain ⟨D, ⟨es, clock, h1, -⟩, -⟩ := hfn; rw [← e, hx2] at h1; simp at h1
  have HR2 := Lib.hid hr2
  have HK2 := Lib.hid hk2
  have HFn := Lib.hid hfn
  have HM3 := Lib.hid hm3
  have HK3 := Lib.hid hk3
  have Hrun := Lib.hid hrun
  have hx3 := hk3.obj (show u2.drew.heap[X]? = _ from hx2) hxm
  have HX3 := Lib.hid hx3
  have HMr := Lib.hid hmr
  clear hks hk2 hr2 hmr hfn hwf hm3 hk3 hrun hx2 hxm hx3 d0 d1 df
  go_region_law (refine step_delete (by rfl) _ _ _ _ (by rfl) (.map (some m)) (.int .i64 e.name) (by rfl) (by rfl) u3 Hrun.out ?_)
  all_goals clear y0 y1 y2 z1
  all_goals obtain ⟨y0, y1, y2, -⟩ := three_box HX3.out
  all_goals go_wp2
  all_goals go_ret
  all_goals
    have htl : (L.take n1).length = n1 := by simp [Hn.out]
    have hbm : ∀ k cs, u2.heap[k]? = some (.cells cs 136 (0, 0)) → ¬ k = m := fun k cs h e => by obtain ⟨D, ⟨es, clock, h1, -⟩, -⟩ := HFn.out; rw [e, h1] at h; simp at h
    have hbr : ∀ k cs, u.heap[k]? = some (.cells cs 136 (0, 0)) → ¬ k = r := fun k cs h e => by rw [e, HU.out.blk] at h; simp at h
    have hku3 : Keeps (· = m) u2 u3 := ((Keeps.refl (· = m) u2).drew).trans HK3.out
    have hrow := row_kept (row_kept (row_take HU.out.row (n1 := n1) (by rw [Hn.out]; omega)) HK2.out hbr) hku3 hbm
    refine ⟨rfl, .slice (some ⟨g, 0, none⟩) n1 cap, ⟨hku3.obj HR2.out (Ne.symm HMr.out), by rw [htl]; exact hrow, ?_, ?_, fun e he => H.out.wf e (List.mem_of_mem_take he), H.out.br, H.out.bm, by rw [htl]; have := H.out.le; have := Hn.out; omega, H.out.nr, H.out.nm, H.out.nl, Nat.le_trans H.out.lim (Nat.le_trans HB.out.size (Nat.le_trans HK2.out.size hku3.size))⟩, ?_, rfl⟩
    · rw [htl]
      have hm := HM3.out
      have hs : (whr L e.name).isSome = true := by rw [HE.out, whr_some H.out.once (by rw [Hn.out]; omega) rfl]; rfl
      rw [hs, if_pos rfl, Hn.out, Nat.add_sub_cancel] at hm
      exact hm.ext fun x _ => by rw [whr_pop H.out.once Hn.out, HE.out]
    · have ho := H.out.once
      unfold Once at ho ⊢
      rw [List.map_take]
      exact (List.take_sublist _ _).nodup ho
    · exact KeepH.trans (KeepH.trans (KeepH.ofBelow HB.out) (Keeps.mono HK2.out fun k _ e => by subst e; exact ⟨⟨H.out.br, H.out.nr⟩, by rw [HU.out.blk]; simp⟩)) (KeepH.ofMap HFn.out H.out.bm H.out.nm hku3)
end Go.Proofs.Ytpchjpmkkiopiaa
