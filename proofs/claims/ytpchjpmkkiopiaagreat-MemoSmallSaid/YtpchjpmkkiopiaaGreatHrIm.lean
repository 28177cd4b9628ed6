import Derived.Test.YtpchjpmkkiopiaaGreatHrDm
namespace Go.Proofs.YtpchjpmkkiopiaaGreat
open Go.RowKit Go.Lib

/-- a slice of things (key, name). -/
def ItAt (w : World) (v : Value) (l : List (Int × Int)) : Prop :=
  ∃ ao b off cap, v = .slice ao l.length cap ∧ (0 < l.length → ao = some ⟨b, off, none⟩ ∧ ∃ cs fr, w.heap[b]? = some (.cells cs 118 fr)) ∧
    ∀ i (h : i < l.length), w.cell? ⟨b, off + i * 2, none⟩ = some (.int .i64 l[i].1) ∧ w.cell? ⟨b, off + i * 2 + 1, none⟩ = some (.int .i64 l[i].2)
theorem ItAt.kept {S : Nat → Prop} {w w' : World} {v : Value} {l : List (Int × Int)} (h : ItAt w v l) (hk : Keeps S w w') (hn : ∀ k cs fr, w.heap[k]? = some (.cells cs 118 fr) → ¬ S k) : ItAt w' v l := by
  obtain ⟨ao, b, off, cap, rfl, h1, h2⟩ := h
  refine ⟨ao, b, off, cap, rfl, fun h0 => ?_, fun i hi => ?_⟩
  · obtain ⟨h3, cs, fr, h4⟩ := h1 h0
    exact ⟨h3, cs, fr, hk.obj h4 (hn _ _ _ h4)⟩
  · obtain ⟨h3, cs, fr, h4⟩ := h1 (by omega)
    obtain ⟨h5, h6⟩ := h2 i hi
    exact ⟨hk.cell h5 (hn _ _ _ h4), hk.cell h6 (hn _ _ _ h4)⟩
theorem ItAt.later {w w' : World} {v : Value} {l : List (Int × Int)} (h : ItAt w v l) (hb : Below w.heap.size w w') : ItAt w' v l := h.kept (S := fun _ => False) (Keeps.ofNew hb _) (fun _ _ _ _ h => h)
theorem ItAt.keepQ [Watch] {base q : Nat} {w w' : World} {v : Value} {l : List (Int × Int)} {cs : Array Value} {fr : Nat × Nat} (h : ItAt w v l) (hk : KeepQ base q w w') (hq : w.heap[q]? = some (.cells cs 113 fr)) : ItAt w' v l :=
  h.kept hk fun k cs fr hc hS => by
    rcases hS with hS | hS
    · have := hS.2
      rw [hc] at this
      simp at this
    · rw [hS, hq] at hc
      simp at hc
theorem RowIs.off [Watch] {base r m x : Nat} {lv : Value} {L : List En} {w w' : World} {cs : Array Value} {t : TypeId} {fr : Nat × Nat} (h : RowIs base w r m lv L) (hk : Keeps (fun k => k = x) w w') (hx : w.heap[x]? = some (.cells cs t fr)) (ht : t ≠ 111) (ht2 : t ≠ 133) : RowIs base w' r m lv L :=
  ⟨hk.obj h.blk (fun e => by rw [← e, h.blk] at hx; simp at hx; exact ht hx.2.1.symm), row_kept h.row hk (fun k cs hc e => by rw [← e, hc] at hx; simp at hx; exact ht2 hx.2.1.symm), h.fn.keeps hk (fun e => by obtain ⟨D, ⟨es, clock, h1, -⟩, -⟩ := h.fn; rw [← e, h1] at hx; simp at hx), h.once, h.wf, h.br, h.bm, h.le, h.nr, h.nm, h.nl, Nat.le_trans h.lim hk.size⟩
theorem quHas [Watch] {base : Nat} {q : Nat} {t : Int} {M : List En} (x : Int) (w : World) (h : Qu base w q t M) (hx : (kx x).wf = true) :
    Calls Tryz.prog 69 #[.pointer (some ⟨q, 0, none⟩), .int .i64 x] w fun e w' => ∃ c, e = .returned (.tuple #[.int .i64 c, .bool (hasN M x)]) ∧ w = w' := by
  obtain ⟨⟨r, m, lv, L, h1, h2⟩, h3⟩ := h
  refine (qHas_any x w h1 hx).mono ?_
  rintro e w1 ⟨c, rfl, -, rfl⟩
  exact ⟨c, by rw [whr_has, hasN_perm h2], rfl⟩
theorem quMade [Watch] {base : Nat} {q : Nat} {t : Int} {M : List En} (w : World) (h : Qu base w q t M) : Calls Tryz.prog 68 #[.pointer (some ⟨q, 0, none⟩)] w fun e w' => e = .returned (.bool true) ∧ w = w' := by
  obtain ⟨⟨r, m, lv, L, h1, h2⟩, h3⟩ := h
  exact qMade_any w h1
def putE (b : Bool) : Int := if b = true then 0 else 8
/-- what a round of Put keeps. -/
structure PutS [Watch] (base q : Nat) (w wr : World) (t : Int) (M : List En) (l : List (Int × Int)) (k : Nat) : Prop where
  ok : (putQ t M (l.take k)).1 = true
  qu : Qu base wr q (putQ t M (l.take k)).2.1 (putQ t M (l.take k)).2.2
  kp : KeepQ base q w wr
theorem take_snoc' {α : Type} (l : List α) (k : Nat) (h : k < l.length) : l.take (k + 1) = l.take k ++ [l[k]] := List.take_succ_eq_append_getElem h
theorem put_stop {t : Int} {M : List En} {l : List (Int × Int)} {k : Nat} (h : k < l.length) (ok : (putQ t M (l.take k)).1 = true) (hs : hasN (putQ t M (l.take k)).2.2 l[k].2 = true) : putQ t M l = (false, (putQ t M (l.take k)).2.1, (putQ t M (l.take k)).2.2) := by
  have h1 := putQ_snoc (l.take k) l[k] t M ok
  rw [if_pos hs, ← take_snoc' l k h] at h1
  have h2 := putQ_stop (l.take (k + 1)) (l.drop (k + 1)) t M (by rw [h1])
  rw [List.take_append_drop, h1] at h2
  exact h2
theorem put_more {t : Int} {M : List En} {l : List (Int × Int)} {k : Nat} (h : k < l.length) (ok : (putQ t M (l.take k)).1 = true) (hs : hasN (putQ t M (l.take k)).2.2 l[k].2 = false) :
    putQ t M (l.take (k + 1)) = (true, (putQ t M (l.take k)).2.1 + 1, (putQ t M (l.take k)).2.2 ++ [⟨l[k].1, l[k].2, (putQ t M (l.take k)).2.1⟩]) := by
  have h1 := putQ_snoc (l.take k) l[k] t M ok
  rw [if_neg (by rw [hs]; simp), ← take_snoc' l k h] at h1
  exact h1
set_option maxRecDepth 100000 in
set_option maxHeartbeats 4000000 in
theorem quPut [Watch] {base : Nat} {q : Nat} {t : Int} {M : List En} {v : Value} {l : List (Int × Int)} (w : World) (h : Qu base w q t M) (hv : ItAt w v l) (hw : ∀ x ∈ l, (kx x.2).wf = true) (hl : M.length + l.length ≤ 100000) (ht : t + l.length ≤ 1000000) :
    Calls Tryz.prog 51 #[.pointer (some ⟨q, 0, none⟩), v] w fun en w' => en = .returned (.int .i64 (putE (putQ t M l).1)) ∧ Qu base w' q (putQ t M l).2.1 (putQ t M l).2.2 ∧ KeepQ base q w w' := by
  have HMd := Lib.hid (quMade w h)
  have H := Lib.hid h
  have HV := Lib.hid hv
  have HW := Lib.hid hw
  have HL := Lib.hid hl
  have HT := Lib.hid ht
  obtain ⟨ao, b, off, cap, rfl, -⟩ := hv
  obtain ⟨n, hn⟩ : ∃ n, n = l.length := ⟨_, rfl⟩
  have hn1 : n ≤ 100000 := by omega
  rw [← hn]
  have HN := Lib.hid hn
  clear h hw hl ht hn
  go_enter Tryz.func51, Tryz.ntmps51
  go_wp2_with fail
  refine HMd.out.mono ?_
  rintro e w1 ⟨rfl, rfl⟩
  go_wp2
  go_loopw [14] (fun i wr => ∃ k : Nat, k ≤ n ∧ i = .int .i64 k ∧ PutS base q w wr t M l k) (fun i _ => n - (intOf i).toNat)
  case atStart => exact ⟨0, Nat.zero_le _, rfl, rfl, H.out, Keeps.refl _ _⟩
  case round =>
    obtain ⟨k, hk, rfl, hs⟩ := hrel
    have HS := Lib.hid hs
    by_cases hlt : k < n
    · have hlt' : k < l.length := by rw [← HN.out]; exact hlt
      have hvr := HV.out.kept hs.kp (fun kk cs fr hc hS => by
        rcases hS with hS | hS
        · have := hS.2
          rw [hc] at this
          simp at this
        · obtain ⟨cq, hcq⟩ := H.out.qblk
          rw [hS, hcq] at hc
          simp at hc)
      obtain ⟨ao', b', off', cap', he, h1, h2⟩ := hvr
      simp only [Value.slice.injEq] at he
      obtain ⟨rfl, -, rfl⟩ := he
      obtain ⟨rfl, -⟩ := h1 (by omega)
      obtain ⟨v0, v1⟩ := h2 k hlt'
      obtain ⟨p, hp⟩ : ∃ p, p = l[k]'hlt' := ⟨_, rfl⟩
      have HP := Lib.hid hp
      rw [← hp] at v0 v1
      have hlt2 : (k : Int) < n := by omega
      have HLt := Lib.hid hlt'
      clear hs h1 h2 hp
      go_upto_region 6 with (fail)
      refine gen_world (S := fun u => Below wr.heap.size wr u ∧ u.heap[wr.heap.size]? = some (.cells #[.int .i64 p.1, .int .i64 p.2] 118 (0, 0))) (one_new wr _) (fun u hu => ?_)
      obtain ⟨hb, hx⟩ := hu
      have HU := Lib.hid (HS.out.qu.later hb)
      have HB := Lib.hid hb
      have HX := Lib.hid hx
      obtain ⟨x0, x1⟩ := two_box hx
      have hwf : (kx p.2).wf = true := by rw [HP.out]; exact HW.out _ (List.getElem_mem _)
      have HWf := Lib.hid hwf
      have HHs := Lib.hid (quHas p.2 u HU.out hwf)
      clear hb hx hwf v0 v1
      cases hhas : hasN (putQ t M (l.take k)).2.2 p.2 with
      | true =>
        rw [hhas] at HHs
        have hst := put_stop HLt.out HS.out.ok (by rw [← HP.out]; exact hhas)
        have HSt := Lib.hid hst
        clear hhas hst
        go_wp2_with fail
        refine HHs.out.mono ?_
        rintro e w1 ⟨c, rfl, rfl⟩
        go_wp2
        go_ret
        rw [HSt.out]
        exact ⟨rfl, HU.out, KeepQ.trans HS.out.kp (KeepQ.ofBelow HB.out)⟩
      | false =>
        rw [hhas] at HHs
        have hmo := put_more HLt.out HS.out.ok (by rw [← HP.out]; exact hhas)
        have HMo := Lib.hid hmo
        have htr := HU.out.trn
        have hln := putQ_len (l.take k) t M
        have htk : (l.take k).length = k := by rw [List.length_take]; have := HLt.out; omega
        rw [htk] at hln
        have hLn : (putQ t M (l.take k)).2.2.length < 100000 := by have := HL.out; have := HLt.out; omega
        have hTn : (putQ t M (l.take k)).2.1 < 1000000 := by have := HT.out; have := HLt.out; omega
        have hT0 := htr.t0
        obtain ⟨⟨r, m, lv, L, h1, h2⟩, -⟩ := HU.out
        have HFr := Lib.hid (show whr L p.2 = none by
          have := whr_has L p.2
          rw [hasN_perm h2, hhas] at this
          simpa using this)
        have HLn := Lib.hid (show L.length < 100000 by rw [h2.length_eq]; exact hLn)
        have HQ := Lib.hid h1
        have H2 := Lib.hid h2
        have HTr := Lib.hid (htr.push (k := p.1) (x := p.2) hhas)
        obtain ⟨tt, htt⟩ : ∃ tt, tt = (putQ t M (l.take k)).2.1 := ⟨_, rfl⟩
        rw [← htt] at hTn hT0 HTr HMo
        rw [← HP.out] at HMo
        have hbu := h1.blk
        rw [← htt] at hbu
        have HBu := Lib.hid hbu
        have HTrn := Lib.hid h1.trn
        rw [← htt] at HTrn
        obtain ⟨c0, c1⟩ := two_box hbu
        have C0 := Lib.hid c0
        have C1 := Lib.hid c1
        have X0 := Lib.hid x0
        have X1 := Lib.hid x1
        have hmu : ∀ w4 : World, w4.heap[q]? = some (.cells #[.pointer (some ⟨r, 0, none⟩), .int .i64 tt] 113 (0, 0)) → w4.cell? ⟨q, 1, none⟩ = some (.int .i64 tt) ∧ w4.frozen? ⟨q, 1, none⟩ = false := fun w4 h => ⟨(two_box h).2, (block_cell' h 1).2⟩
        have HMu := Lib.hid hmu
        have HFin := Lib.hid (show ∀ (w4 : World) (lv' : Value) (L' : List En), RowIs base w4 r m lv' L' → Hp (pos L') L'.length → L'.Perm (L ++ [⟨p.1, p.2, tt⟩]) → KeepH base u w4 → PutS base q w (w4.setCell ⟨q, 1, none⟩ (.int .i64 (tt + 1))) t M l (k + 1) from fun w4 lv' L' hr4 hh4 hp4 hk4 => by
          have hq4 := hk4.cells (k := q) HBu.out (by decide)
          have hset : Keeps (fun k => k = q) w4 (w4.setCell ⟨q, 1, none⟩ (.int .i64 (tt + 1))) := (Keeps.refl (fun k => k = q) w4).setCell (p := ⟨q, 1, none⟩) rfl _
          refine ⟨by rw [HMo.out], ?_, ?_⟩
          · rw [HMo.out]
            refine ⟨⟨r, m, lv', L', ⟨block_setCell' hq4, hr4.off hset hq4 (by decide) (by decide), hh4, fun a ha => ?_, HQ.out.bq⟩, hp4.trans (H2.out.append_right _)⟩, HTr.out⟩
            rcases List.mem_append.1 (hp4.mem_iff.1 ha) with ha | ha
            · have := HTrn.out a ha; show a.turn < tt + 1; omega
            · simp at ha; subst ha; show tt < tt + 1; omega
          · exact KeepQ.trans HS.out.kp (KeepQ.trans (KeepQ.ofBelow HB.out) (KeepQ.trans (KeepQ.ofH hk4) (Keeps.mono hset fun _ _ e => .inr e))))
        clear h1 h2 hhas hmo htr hln htk hLn hbu htt c0 c1 x0 hmu
        go_wp2_with fail
        refine HHs.out.mono ?_
        rintro e w1 ⟨c, rfl, rfl⟩
        go_upto_region 9 with (fail)
        clear x1
        refine wp_region_held_drew (S := fun wq => KeepH base u wq) (by kernel_rfl) (KeepH.ofBelow (Below.refl _ _).drew) (fun hS => ?_)
        refine wpAnyH_take (i := 0) (oi := ⟨_, _, _, _, _, _⟩) (v := ?v1) rfl (by kernel_rfl) (by kernel_rfl) (by kernel_rfl) (fun _ _ _ h => h) ?y1 hS ?_
        case y1 => first | (refine Or.inr ⟨by rfl, ?_⟩; with_reducible rfl) | (refine Or.inl ⟨by rfl, ?_⟩; intro wS hSw; obtain ⟨c0S, c1S⟩ := two_box (hSw.cells (k := q) HBu.out (by decide)); obtain ⟨x0S, x1S⟩ := two_box (hSw.cells (k := wr.heap.size) HX.out (by decide)); go_simp; try with_reducible rfl)
        simp only [Act.put, List.setIfInBounds_toArray, List.set_cons_zero, List.set_cons_succ]
        refine wpAnyH_take (i := 1) (oi := ⟨_, _, _, _, _, _⟩) (v := ?v2) rfl (by kernel_rfl) (by kernel_rfl) (by kernel_rfl) (fun _ _ _ h => h) ?y2 hS ?_
        case y2 => first | (refine Or.inr ⟨by rfl, ?_⟩; with_reducible rfl) | (refine Or.inl ⟨by rfl, ?_⟩; intro wS hSw; obtain ⟨c0S, c1S⟩ := two_box (hSw.cells (k := q) HBu.out (by decide)); obtain ⟨x0S, x1S⟩ := two_box (hSw.cells (k := wr.heap.size) HX.out (by decide)); go_simp; try with_reducible rfl)
        simp only [Act.put, List.setIfInBounds_toArray, List.set_cons_zero, List.set_cons_succ]
        refine wpAnyH_take (i := 2) (oi := ⟨_, _, _, _, _, _⟩) (v := ?v3) rfl (by kernel_rfl) (by kernel_rfl) (by kernel_rfl) (fun _ _ _ h => h) ?y3 hS ?_
        case y3 => first | (refine Or.inr ⟨by rfl, ?_⟩; with_reducible rfl) | (refine Or.inl ⟨by rfl, ?_⟩; intro wS hSw; obtain ⟨c0S, c1S⟩ := two_box (hSw.cells (k := q) HBu.out (by decide)); obtain ⟨x0S, x1S⟩ := two_box (hSw.cells (k := wr.heap.size) HX.out (by decide)); go_simp; try with_reducible rfl)
        simp only [Act.put, List.setIfInBounds_toArray, List.set_cons_zero, List.set_cons_succ]
        refine wpAnyH_take (i := 3) (oi := ⟨_, _, _, _, _, _⟩) (v := ?v4) rfl (by kernel_rfl) (by kernel_rfl) (by kernel_rfl) (fun _ _ _ h => h) ?y4 hS ?_
        case y4 => first | (refine Or.inr ⟨by rfl, ?_⟩; with_reducible rfl) | (refine Or.inl ⟨by rfl, ?_⟩; intro wS hSw; obtain ⟨c0S, c1S⟩ := two_box (hSw.cells (k := q) HBu.out (by decide)); obtain ⟨x0S, x1S⟩ := two_box (hSw.cells (k := wr.heap.size) HX.out (by decide)); go_simp; try with_reducible rfl)
        simp only [Act.put, List.setIfInBounds_toArray, List.set_cons_zero, List.set_cons_succ]
        refine wpAnyH_take (i := 4) (oi := ⟨_, _, _, _, _, _⟩) (v := ?v5) rfl (by kernel_rfl) (by kernel_rfl) (by kernel_rfl) (fun _ _ _ h => h) ?y5 hS ?_
        case y5 => first | (refine Or.inr ⟨by rfl, ?_⟩; with_reducible rfl) | (refine Or.inl ⟨by rfl, ?_⟩; intro wS hSw; obtain ⟨c0S, c1S⟩ := two_box (hSw.cells (k := q) HBu.out (by decide)); obtain ⟨x0S, x1S⟩ := two_box (hSw.cells (k := wr.heap.size) HX.out (by decide)); go_simp; try with_reducible rfl)
        simp only [Act.put, List.setIfInBounds_toArray, List.set_cons_zero, List.set_cons_succ]
        refine wpAnyH_take (i := 5) (oi := ⟨_, _, _, _, _, _⟩) (v := ?v6) rfl (by kernel_rfl) (by kernel_rfl) (by kernel_rfl) (fun _ _ _ h => h) ?y6 hS ?_
        case y6 => first | (refine Or.inr ⟨by rfl, ?_⟩; with_reducible rfl) | (refine Or.inl ⟨by rfl, ?_⟩; intro wS hSw; obtain ⟨c0S, c1S⟩ := two_box (hSw.cells (k := q) HBu.out (by decide)); obtain ⟨x0S, x1S⟩ := two_box (hSw.cells (k := wr.heap.size) HX.out (by decide)); go_simp; try with_reducible rfl)
        simp only [Act.put, List.setIfInBounds_toArray, List.set_cons_zero, List.set_cons_succ]
        refine wpAnyH_take (i := 6) (oi := ⟨_, _, _, _, _, _⟩) (v := ?v7) rfl (by kernel_rfl) (by kernel_rfl) (by kernel_rfl) (fun _ _ _ h => h) ?y7 hS ?_
        case y7 => first | (refine Or.inr ⟨by rfl, ?_⟩; with_reducible rfl) | (refine Or.inl ⟨by rfl, ?_⟩; intro wS hSw; obtain ⟨c0S, c1S⟩ := two_box (hSw.cells (k := q) HBu.out (by decide)); obtain ⟨x0S, x1S⟩ := two_box (hSw.cells (k := wr.heap.size) HX.out (by decide)); go_simp; try with_reducible rfl)
        simp only [Act.put, List.setIfInBounds_toArray, List.set_cons_zero, List.set_cons_succ]
        refine wpAnyH_take (i := 7) (oi := ⟨_, _, _, _, _, _⟩) (v := ?v8) rfl (by kernel_rfl) (by kernel_rfl) (by kernel_rfl) (fun _ _ _ h => h) ?y8 hS ?_
        case y8 => first | (refine Or.inr ⟨by rfl, ?_⟩; with_reducible rfl) | (refine Or.inl ⟨by rfl, ?_⟩; intro wS hSw; obtain ⟨c0S, c1S⟩ := two_box (hSw.cells (k := q) HBu.out (by decide)); obtain ⟨x0S, x1S⟩ := two_box (hSw.cells (k := wr.heap.size) HX.out (by decide)); go_simp; try with_reducible rfl)
        simp only [Act.put, List.setIfInBounds_toArray, List.set_cons_zero, List.set_cons_succ]
        refine wpAnyH_take (i := 8) (oi := ⟨_, _, _, _, _, _⟩) (v := ?v9) rfl (by kernel_rfl) (by kernel_rfl) (by kernel_rfl) (fun _ _ _ h => h) ?y9 hS ?_
        case y9 => first | (refine Or.inr ⟨by rfl, ?_⟩; with_reducible rfl) | (refine Or.inl ⟨by rfl, ?_⟩; intro wS hSw; obtain ⟨c0S, c1S⟩ := two_box (hSw.cells (k := q) HBu.out (by decide)); obtain ⟨x0S, x1S⟩ := two_box (hSw.cells (k := wr.heap.size) HX.out (by decide)); go_simp; try with_reducible rfl)
        simp only [Act.put, List.setIfInBounds_toArray, List.set_cons_zero, List.set_cons_succ]
        refine wpAnyH_take (i := 9) (oi := ⟨_, _, _, _, _, _⟩) (v := ?v10) rfl (by kernel_rfl) (by kernel_rfl) (by kernel_rfl) (fun _ _ _ h => h) ?y10 hS ?_
        case y10 => first | (refine Or.inr ⟨by rfl, ?_⟩; with_reducible rfl) | (refine Or.inl ⟨by rfl, ?_⟩; intro wS hSw; obtain ⟨c0S, c1S⟩ := two_box (hSw.cells (k := q) HBu.out (by decide)); obtain ⟨x0S, x1S⟩ := two_box (hSw.cells (k := wr.heap.size) HX.out (by decide)); go_simp; try with_reducible rfl)
        simp only [Act.put, List.setIfInBounds_toArray, List.set_cons_zero, List.set_cons_succ]
        refine wpAnyH_take (i := 10) (oi := ⟨_, _, _, _, _, _⟩) (v := ?v11) rfl (by kernel_rfl) (by kernel_rfl) (by kernel_rfl) (fun _ _ _ h => h) ?y11 hS ?_
        case y11 => first | (refine Or.inr ⟨by rfl, ?_⟩; with_reducible rfl) | (refine Or.inl ⟨by rfl, ?_⟩; intro wS hSw; obtain ⟨c0S, c1S⟩ := two_box (hSw.cells (k := q) HBu.out (by decide)); obtain ⟨x0S, x1S⟩ := two_box (hSw.cells (k := wr.heap.size) HX.out (by decide)); go_simp; try with_reducible rfl)
        simp only [Act.put, List.setIfInBounds_toArray, List.set_cons_zero, List.set_cons_succ]
        refine wpAnyH_take (i := 11) (oi := ⟨_, _, _, _, _, _⟩) (v := ?v12) rfl (by kernel_rfl) (by kernel_rfl) (by kernel_rfl) (fun _ _ _ h => h) ?y12 hS ?_
        case y12 => first | (refine Or.inr ⟨by rfl, ?_⟩; with_reducible rfl) | (refine Or.inl ⟨by rfl, ?_⟩; intro wS hSw; obtain ⟨c0S, c1S⟩ := two_box (hSw.cells (k := q) HBu.out (by decide)); obtain ⟨x0S, x1S⟩ := two_box (hSw.cells (k := wr.heap.size) HX.out (by decide)); go_simp; try with_reducible rfl)
        simp only [Act.put, List.setIfInBounds_toArray, List.set_cons_zero, List.set_cons_succ]
        refine wpAnyH_ready (rs := [12]) (by kernel_rfl) (by simp) ?_
        refine AllReadyH.cons (o := ⟨_, _, _, _, _, _⟩) rfl (fun K hK => ?_) AllReadyH.nil
        go_simp
        refine (hPush_any (e := ⟨p.1, p.2, tt⟩) _ (HQ.out.row.later (Below.refl _ _).drew) HQ.out.hp HWf.out HFr.out HLn.out).mono ?_
        rintro e wx ⟨rfl, lv4, L4, hr4, hh4, hp4, hk4⟩
        have hS : KeepH base u wx := KeepH.trans (KeepH.ofBelow (Below.refl _ _).drew) hk4
        go_wp2_with fail
        refine hK.out _ _ hS (fun _ => ?_)
        clear hK K
        try simp only [Act.put, List.setIfInBounds_toArray, List.set_cons_zero, List.set_cons_succ]
        refine wpAnyH_done (by kernel_rfl) ?_ _
        obtain ⟨c4, f4⟩ := HMu.out _ (hS.cells (k := q) HBu.out (by decide))
        have HE := Lib.hid (HFin.out _ _ _ hr4 hh4 hp4 hS)
        clear hr4 hh4 hp4 hS hk4
        have hwr : IntKind.i64.wrap (tt + 1) = tt + 1 := IntWalk.i64_in _ (by omega)
        go_wp2
        go_roundw
        case rel => exact ⟨k + 1, by omega, by go_num, HE.out⟩
        case measure => simp [intOf]; omega
    · go_wp2
      go_ret
      have hkn : k = n := by omega
      have hst := HS.out
      have e : l.take k = l := by rw [hkn, HN.out, List.take_length]
      have h1 := hst.ok
      have h2 := hst.qu
      rw [e] at h1 h2
      rw [h1]
      exact ⟨rfl, h2, hst.kp⟩
end Go.Proofs.YtpchjpmkkiopiaaGreat
namespace Go.Proofs.YtpchjpmkkiopiaaGreat
open Go.RowKit Go.Lib

theorem qu_fresh [Watch] {base : Nat} {w : World} (hb : base ≤ w.heap.size) (hl : Watch.lim ≤ w.heap.size) :
    Qu base (((w.alloc (.map #[] 0)).alloc (.cells #[.slice none 0 0, .map (some w.heap.size)] 111)).alloc (.cells #[.pointer (some ⟨w.heap.size + 1, 0, none⟩), .int .i64 0] 113)) (w.heap.size + 2) 0 [] := by
  have hnw : ∀ k, w.heap.size ≤ k → ¬ Watch.W k := fun k hk h => by have := Watch.lt k h; omega
  obtain ⟨w1, h1⟩ : ∃ w1, w1 = w.alloc (.map #[] 0) := ⟨_, rfl⟩
  have s1 : w1.heap.size = w.heap.size + 1 := by rw [h1]; simp
  have hm1 : MapFn w1 w.heap.size 0 (fun _ => none) := by rw [h1]; exact MapFn.made w
  rw [← h1]
  obtain ⟨w2, h2⟩ : ∃ w2, w2 = w1.alloc (.cells #[.slice none 0 0, .map (some w.heap.size)] 111) := ⟨_, rfl⟩
  have s2 : w2.heap.size = w.heap.size + 2 := by rw [h2]; simp [s1]
  have b2 : w2.heap[w.heap.size + 1]? = some (.cells #[.slice none 0 0, .map (some w.heap.size)] 111 (0, 0)) := by rw [h2, ← s1]; exact heap_alloc_new w1 _
  have hm2 : MapFn w2 w.heap.size 0 (fun _ => none) := hm1.keeps (S := fun _ => False) (Keeps.ofNew (by rw [h2]; exact (Below.refl _ _).alloc (Nat.le_refl _) _) _) (fun h => h)
  rw [← h2]
  have hb3 : Below w2.heap.size w2 (w2.alloc (.cells #[.pointer (some ⟨w.heap.size + 1, 0, none⟩), .int .i64 0] 113)) := (Below.refl _ _).alloc (Nat.le_refl _) _
  refine ⟨⟨w.heap.size + 1, w.heap.size, .slice none 0 0, [], ⟨by rw [← s2]; exact heap_alloc_new w2 _, ⟨(hb3.block _ (lt_of_block b2)).trans b2, ⟨by simp, .inl ⟨rfl, rfl⟩⟩, (hm2.keeps (S := fun _ => False) (Keeps.ofNew hb3 _) (fun h => h)).ext fun x _ => by simp [whr], by simp [Once], by simp, by omega, hb, by simp, hnw _ (by omega), hnw _ (Nat.le_refl _), fun k hk => by simp [Value.ownBlock] at hk, by simp [s2]; omega⟩, fun k k0 hk => by simp at hk, by simp, by omega⟩, List.Perm.refl _⟩, Trn.nil (by omega)⟩
set_option maxRecDepth 100000 in
set_option maxHeartbeats 2000000 in
theorem quNew [Watch] {base : Nat} {v : Value} {l : List (Int × Int)} (w : World) (hb : base ≤ w.heap.size) (hlm : Watch.lim ≤ w.heap.size) (hv : ItAt w v l) (hw : ∀ x ∈ l, (kx x.2).wf = true) (hl : l.length ≤ 100000) (hok : (putQ 0 [] l).1 = true) :
    Calls Tryz.prog 29 #[v] w fun en w' => ∃ q, en = .returned (.tuple #[.pointer (some ⟨q, 0, none⟩), .int .i64 0]) ∧ w.heap.size ≤ q ∧ Qu base w' q (putQ 0 [] l).2.1 (putQ 0 [] l).2.2 ∧ Below w.heap.size w w' := by
  have hf := qu_fresh hb hlm
  have hbel : Below w.heap.size w (((w.alloc (.map #[] 0)).alloc (.cells #[.slice none 0 0, .map (some w.heap.size)] 111)).alloc (.cells #[.pointer (some ⟨w.heap.size + 1, 0, none⟩), .int .i64 0] 113)) := (((Below.refl _ _).alloc (Nat.le_refl _) _).alloc (by simp) _).alloc (by simp; omega) _
  have hp := quPut (base := w.heap.size) (l := l) _ (@qu_fresh _ w.heap.size w (Nat.le_refl _) hlm) (hv.later hbel) hw (by simp; omega) (by omega)
  rw [hok] at hp
  have HP := Lib.hid hp
  have HBel := Lib.hid hbel
  have HB := Lib.hid hb
  obtain ⟨ao, b, off, cap, rfl, -⟩ := hv
  clear hf hbel hp hw hl hok hb
  have hmm := @run_makeMap Tryz.prog
  go_enter Tryz.func29, Tryz.ntmps29
  go_wp2_with fail
  refine HP.out.mono ?_
  rintro en w4 ⟨rfl, hq, hk⟩
  have hq' : Qu base w4 (w.heap.size + 2) (putQ 0 [] l).2.1 (putQ 0 [] l).2.2 := by
    obtain ⟨⟨r, m, lv, L, h1, h2⟩, h3⟩ := hq
    exact ⟨⟨r, m, lv, L, ⟨h1.blk, ⟨h1.row.blk, ownsRow_base h1.row.row HB.out, h1.row.fn, h1.row.once, h1.row.wf, Nat.le_trans HB.out h1.row.br, Nat.le_trans HB.out h1.row.bm, h1.row.le, h1.row.nr, h1.row.nm, h1.row.nl, h1.row.lim⟩, h1.hp, h1.trn, Nat.le_trans HB.out h1.bq⟩, h2⟩, h3⟩
  have HE := Lib.hid (show w.heap.size ≤ w.heap.size + 2 ∧ Qu base w4 (w.heap.size + 2) (putQ 0 [] l).2.1 (putQ 0 [] l).2.2 ∧ Below w.heap.size w w4 from ⟨by omega, hq', HBel.out.trans (hk.below HBel.out.size (by omega))⟩)
  clear hq hk hq'
  go_wp2
  exact bodyPost_ret (v := .tuple #[.pointer (some ⟨w.heap.size + 2, 0, none⟩), .int .i64 0]) (by simp [results, Tryz.f29, go_sem]) rfl ⟨_, rfl, HE.out⟩
set_option maxRecDepth 100000 in
set_option maxHeartbeats 2000000 in
theorem quNewE {v : Value} {l : List (Int × Int)} (w : World) (hv : ItAt w v l) (hw : ∀ x ∈ l, (kx x.2).wf = true) (hl : l.length ≤ 100000) (hok : (putQ 0 [] l).1 = false) :
    Calls Tryz.prog 29 #[v] w fun en w' => en = .returned (.tuple #[.pointer none, .int .i64 8]) ∧ Below w.heap.size w w' := by
  have hbel : Below w.heap.size w (((w.alloc (.map #[] 0)).alloc (.cells #[.slice none 0 0, .map (some w.heap.size)] 111)).alloc (.cells #[.pointer (some ⟨w.heap.size + 1, 0, none⟩), .int .i64 0] 113)) := (((Below.refl _ _).alloc (Nat.le_refl _) _).alloc (by simp) _).alloc (by simp; omega) _
  have hp := quPut (base := w.heap.size) (l := l) _ (@qu_fresh noWatch w.heap.size w (Nat.le_refl _) (Nat.zero_le _)) (hv.later hbel) hw (by simp; omega) (by omega)
  rw [hok] at hp
  have HP := Lib.hid hp
  have HBel := Lib.hid hbel
  obtain ⟨ao, b, off, cap, rfl, -⟩ := hv
  clear hbel hp hw hl hok
  have hmm := @run_makeMap Tryz.prog
  go_enter Tryz.func29, Tryz.ntmps29
  go_wp2_with fail
  refine HP.out.mono ?_
  rintro en w4 ⟨rfl, hq, hk⟩
  have HE := Lib.hid (show Below w.heap.size w w4 from HBel.out.trans (hk.below HBel.out.size (by omega)))
  clear hq hk
  go_wp2
  exact bodyPost_ret (v := .tuple #[.pointer none, .int .i64 8]) (by simp [results, Tryz.f29, go_sem, putE]) rfl ⟨rfl, HE.out⟩
end Go.Proofs.YtpchjpmkkiopiaaGreat
namespace Go.Proofs.YtpchjpmkkiopiaaGreat
open Go.RowKit Go.Lib

theorem kx_small {n : Int} (h : -1000000 ≤ n) (h2 : n ≤ 1000000) : (kx n).wf = true := by simp [Lit.wf, IntKind.min, IntKind.max, IntKind.signed, IntKind.bits]; omega
theorem it_one {w : World} {b : Nat} {k n : Int} {fr : Nat × Nat} (h : w.heap[b]? = some (.cells #[.int .i64 k, .int .i64 n] 118 fr)) : ItAt w (.slice (some ⟨b, 0, none⟩) 1 1) [(k, n)] := by
  refine ⟨_, b, 0, 1, rfl, fun _ => ⟨rfl, _, _, h⟩, fun i hi => ?_⟩
  have hi' : i < 1 := hi
  obtain rfl : i = 0 := by omega
  simp [World.cell?, h]
theorem quPut1 [Watch] {base q b : Nat} {t k x : Int} {M : List En} (w : World) (h : Qu base w q t M) (hv : w.heap[b]? = some (.cells #[.int .i64 k, .int .i64 x] 118 (0, 0))) (hw : (kx x).wf = true) (hl : M.length < 100000) (ht : t < 1000000) (hn : hasN M x = false) :
    Calls Tryz.prog 51 #[.pointer (some ⟨q, 0, none⟩), .slice (some ⟨b, 0, none⟩) 1 1] w fun en w' => en = .returned (.int .i64 0) ∧ Qu base w' q (t + 1) (M ++ [⟨k, x, t⟩]) ∧ KeepQ base q w w' := by
  have e : putQ t M [(k, x)] = (true, t + 1, M ++ [⟨k, x, t⟩]) := by simp only [putQ]; rw [if_neg (by rw [hn]; simp)]
  have := quPut w h (it_one hv) (by simpa using hw) (by simp; omega) (by simp; omega)
  rw [e] at this
  exact this
theorem Qu.off [Watch] {base q x : Nat} {t : Int} {M : List En} {w w' : World} {cs : Array Value} {fr : Nat × Nat} (h : Qu base w q t M) (hk : Keeps (fun k => k = x) w w') (hx : w.heap[x]? = some (.cells cs 118 fr)) : Qu base w' q t M := by
  obtain ⟨⟨r, m, lv, L, h1, h2⟩, h3⟩ := h
  exact ⟨⟨r, m, lv, L, ⟨hk.obj h1.blk (fun e => by rw [← e, h1.blk] at hx; simp at hx), h1.row.off hk hx (by decide) (by decide), h1.hp, h1.trn, h1.bq⟩, h2⟩, h3⟩
theorem dropN_has {M : List En} {x y : Int} : hasN (dropN M x) y = (hasN M y && decide (x ≠ y)) := by
  rw [Bool.eq_iff_iff]
  simp only [hasN_iff, dropN, List.mem_filter, bne_iff_ne, Bool.and_eq_true, decide_eq_true_eq]
  constructor
  · rintro ⟨e, ⟨h1, h2⟩, h3⟩
    exact ⟨⟨e, h1, h3⟩, fun h => h2 (by rw [h, h3])⟩
  · rintro ⟨⟨e, h1, h3⟩, h4⟩
    exact ⟨e, ⟨h1, fun h => h4 (by rw [← h, h3])⟩, h3⟩
theorem dropN_len {M : List En} (ho : Once M) {x : Int} (h : hasN M x = true) : (dropN M x).length + 1 = M.length := by
  obtain ⟨e, he, rfl⟩ := hasN_iff.1 h
  have h1 : ∀ (M : List En), Once M → e ∈ M → (dropN M e.name).length + 1 = M.length := by
    intro M
    induction M with
    | nil => intro _ h; simp at h
    | cons a r ih =>
      intro ho he
      unfold Once at ho
      rw [List.map_cons, List.nodup_cons] at ho
      by_cases hn : a.name = e.name
      · have hr : hasN r e.name = false := by
          cases hh : hasN r e.name with
          | false => rfl
          | true =>
            obtain ⟨c, h2, h3⟩ := hasN_iff.1 hh
            exact absurd (by rw [hn, ← h3]; exact List.mem_map_of_mem h2) ho.1
        have : dropN (a :: r) e.name = r := by
          have h4 := dropN_none hr
          unfold dropN at h4 ⊢
          rw [List.filter_cons, if_neg (by simp [hn]), h4]
        rw [this]
        rfl
      · have he' : e ∈ r := by
          rcases List.mem_cons.1 he with h | h
          · exact absurd (by rw [h]) hn
          · exact h
        have : dropN (a :: r) e.name = a :: dropN r e.name := by
          unfold dropN
          rw [List.filter_cons, if_pos (by simp [hn])]
        rw [this, List.length_cons, List.length_cons, ih ho.2 he']
  exact h1 M ho he
end Go.Proofs.YtpchjpmkkiopiaaGreat
