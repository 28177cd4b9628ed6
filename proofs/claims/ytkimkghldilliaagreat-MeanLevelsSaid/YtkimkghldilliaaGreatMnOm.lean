import Derived.Test.YtkimkghldilliaaGreatMnNm
namespace Go.Proofs.YtkimkghldilliaaGreat
open Go.RowKit Go.Lib

def aIs (r : Fo) (s : Ss) : Bool := !s.over && foIs r
def aEn (r : Fo) (s : Ss) : Int := if s.over then 0 else foEn r
def aFar (r : Fo) (s : Ss) : Int := if s.over then 0 else foFar r
def aTree (r : Fo) (s : Ss) : List Tw := if s.over then [] else foF r
def aSp (T : Nat) (s : Ss) : Int := if s.over then 0 else (T : Int) - s.left
def aErr (s : Ss) : Int := if s.over then 12 else 0
def MatchP (w : World) (r : Fo) (s : Ss) (T : Nat) (e : Ending) (w' : World) : Prop := (∃ tv, e = .returned (.tuple #[.agg #[.bool (aIs r s), .int .i64 (aEn r s), .int .i64 (aFar r s), tv], .int .i64 (aSp T s), .int .i64 (aErr s)]) ∧ TwIn w' tv (aTree r s)) ∧ Below w.heap.size w w'
theorem four_frz {w : World} {b : Nat} {x0 x1 x2 x3 : Value} {t : TypeId} (h : w.heap[b]? = some (.cells #[x0, x1, x2, x3] t (0, 0))) : w.frozen? ⟨b, 0, none⟩ = false ∧ w.frozen? ⟨b, 1, none⟩ = false ∧ w.frozen? ⟨b, 2, none⟩ = false ∧ w.frozen? ⟨b, 3, none⟩ = false := ⟨(block_cell' h 0).2, (block_cell' h 1).2, (block_cell' h 2).2, (block_cell' h 3).2⟩
theorem set4 {w : World} {b : Nat} {x0 x1 x2 x3 : Value} {t : TypeId} (h : w.heap[b]? = some (.cells #[x0, x1, x2, x3] t (0, 0))) (y0 y1 y2 y3 : Value) :
    ((((w.setCell ⟨b, 0, none⟩ y0).setCell ⟨b, 1, none⟩ y1).setCell ⟨b, 2, none⟩ y2).setCell ⟨b, 3, none⟩ y3).heap[b]? = some (.cells #[y0, y1, y2, y3] t (0, 0)) ∧ Keeps (· = b) w ((((w.setCell ⟨b, 0, none⟩ y0).setCell ⟨b, 1, none⟩ y1).setCell ⟨b, 2, none⟩ y2).setCell ⟨b, 3, none⟩ y3) :=
  ⟨block_setCell' (block_setCell' (block_setCell' (block_setCell' h))), ((((Keeps.refl (fun k => k = b) w).setCell (p := ⟨b, 0, none⟩) rfl _).setCell (p := ⟨b, 1, none⟩) rfl _).setCell (p := ⟨b, 2, none⟩) rfl _).setCell (p := ⟨b, 3, none⟩) rfl _⟩
theorem LiveOk.nil (C : Cx) : LiveOk C [] := ⟨by intro x hx; simp [lvF] at hx, fun x hx => by simp at hx, fun x hx => by simp at hx⟩
set_option maxRecDepth 100000 in
set_option maxHeartbeats 8000000 in
theorem mMatch_go {rv nv wv : Value} {R : List Ru} {N : List Nd} {W : List UInt8} {rule lev : Int} {p T : Nat} {ru : Ru} {r : Fo} {st' : Ss} (w : World)
    (hg : GrOk w rv nv R N) (hw : BytesAt w wv W) (hR : grRight R N = true) (hW : W.length ≤ 2048) (hr : 0 ≤ rule) (hru : R[rule.toNat]? = some ru) (hl : 0 ≤ lev ∧ lev ≤ 99) (hp : p ≤ W.length) (hT : T ≤ 1000000000)
    (he : freshE (ev false R N W T) false [] rule lev p ru.body.toNat (T + 1) ⟨T, false⟩ = some (r, st')) :
    Calls Tryz.prog 10 #[.agg #[rv, nv], wv, .int .i64 rule, .int .i64 lev, .int .i64 p, .int .i64 T] w (MatchP w r st' T) := by
  have HG := Lib.hid hg
  have HW := Lib.hid hw
  have HR := Lib.hid hR
  have HE := Lib.hid he
  have HRu := Lib.hid hru
  have HWl := Lib.hid hW
  have HGv := Lib.hid (right_gv hR)
  have HTl := Lib.hid hT
  have HPl := Lib.hid hp
  have HPr := Lib.hid hr
  have HLv := Lib.hid hl
  have hlt : rule.toNat < R.length := (List.getElem?_eq_some_iff.1 hru).1
  obtain ⟨ra, rc, hrv⟩ := hg.rules.val
  obtain ⟨na, nc, hnv⟩ := hg.nodes.val
  obtain ⟨wa, wc, hwv⟩ := hw.val
  rw [List.length_map] at hrv hnv
  subst hrv
  subst hnv
  subst hwv
  obtain ⟨rl, hrl⟩ : ∃ rl, rl = R.length := ⟨_, rfl⟩
  obtain ⟨wl, hwl⟩ : ∃ wl, wl = W.length := ⟨_, rfl⟩
  obtain ⟨nl, hnl⟩ : ∃ nl, nl = N.length := ⟨_, rfl⟩
  rw [← hwl] at HW hp hW ⊢
  rw [← hrl] at HG hlt ⊢
  rw [← hnl] at HG ⊢
  have h1 : ¬ rule < 0 := by omega
  have h2 : ¬ rule ≥ (rl : Int) := by omega
  have h3 : ¬ lev < 0 := by omega
  have h4 : ¬ lev > 99 := by omega
  have h5 : ¬ (T : Int) < 0 := by omega
  have h6 : ¬ (p : Int) < 0 := by omega
  have h7 : ¬ (p : Int) > (wl : Int) := by omega
  have h8 : ¬ (wl : Int) > 2048 := by omega
  clear hg hw hR hW hru hlt he hrl hwl hnl hp hT hr hl
  go_enter Tryz.func10, Tryz.ntmps10
  go_upto_region 1 with (fail)
  refine gen_world (S := fun u => Below w.heap.size w u ∧ u.heap[w.heap.size]? = some (.cells #[.slice ra rl rc, .slice na nl nc] 25 (0, 0)) ∧ u.heap[w.heap.size + 1]? = some (.cells #[.bool false, .int .i64 0, .int .i64 0, .slice none 0 0] 35 (0, 0))) (two_new w _ _) (fun u hu => ?_)
  obtain ⟨hb, k1, k2⟩ := hu
  obtain ⟨v0, v1, -, -⟩ := box_cells k1
  have HB := Lib.hid hb
  have K1 := Lib.hid k1
  have K2 := Lib.hid k2
  obtain ⟨X, hX⟩ : ∃ X, X = w.heap.size := ⟨_, rfl⟩
  rw [← hX] at K1 K2 v0 v1 ⊢
  have HX := Lib.hid hX
  clear hb k1 k2 hX
  go_wp2_with fail
  refine (gRight_any _ _ R N u (HG.out.later HB.out)).mono ?_
  rintro e w1 ⟨rfl, hb1⟩
  rw [HR.out]
  have HB1 := Lib.hid (HB.out.trans (hb1.mono HB.out.size))
  have K11 := Lib.hid ((hb1.block _ (lt_of_block K1.out)).trans K1.out)
  have K21 := Lib.hid ((hb1.block _ (lt_of_block K2.out)).trans K2.out)
  clear hb1 v0 v1 HB K1 K2
  obtain ⟨v0, v1, -, -⟩ := box_cells K11.out
  go_upto_region 9 with (fail)
  clear v0 v1 h1 h2 h3 h4 h5 h6 h7 h8
  have hS0 : w1.drew.heap[X]? = some (.cells #[.slice ra rl rc, .slice na nl nc] 25 (0, 0)) := K11.out
  refine wp_region_held_drew (S := fun z => z.heap[X]? = some (.cells #[.slice ra rl rc, .slice na nl nc] 25 (0, 0))) (by kernel_rfl) hS0 (fun hS => ?_)
  clear hS0
  refine wpAnyH_take (i := 0) (oi := ⟨_, _, _, _, _, _⟩) (v := ?v1) rfl (by kernel_rfl) (by kernel_rfl) (by kernel_rfl) (fun _ _ _ h => h) ?y1 hS ?_
  case y1 => first | (refine Or.inr ⟨by rfl, ?_⟩; with_reducible rfl) | (refine Or.inl ⟨by rfl, ?_⟩; intro wS hSw; obtain ⟨v0, v1, -, -⟩ := box_cells hSw; go_simp; try with_reducible rfl)
  simp only [Act.put, List.setIfInBounds_toArray, List.set_cons_zero, List.set_cons_succ]
  refine wpAnyH_take (i := 1) (oi := ⟨_, _, _, _, _, _⟩) (v := ?v2) rfl (by kernel_rfl) (by kernel_rfl) (by kernel_rfl) (fun _ _ _ h => h) ?y2 hS ?_
  case y2 => first | (refine Or.inr ⟨by rfl, ?_⟩; with_reducible rfl) | (refine Or.inl ⟨by rfl, ?_⟩; intro wS hSw; obtain ⟨v0, v1, -, -⟩ := box_cells hSw; go_simp; try with_reducible rfl)
  simp only [Act.put, List.setIfInBounds_toArray, List.set_cons_zero, List.set_cons_succ]
  refine wpAnyH_take (i := 2) (oi := ⟨_, _, _, _, _, _⟩) (v := ?v3) rfl (by kernel_rfl) (by kernel_rfl) (by kernel_rfl) (fun _ _ _ h => h) ?y3 hS ?_
  case y3 => first | (refine Or.inr ⟨by rfl, ?_⟩; with_reducible rfl) | (refine Or.inl ⟨by rfl, ?_⟩; intro wS hSw; obtain ⟨v0, v1, -, -⟩ := box_cells hSw; go_simp; try with_reducible rfl)
  simp only [Act.put, List.setIfInBounds_toArray, List.set_cons_zero, List.set_cons_succ]
  refine wpAnyH_take (i := 3) (oi := ⟨_, _, _, _, _, _⟩) (v := ?v4) rfl (by kernel_rfl) (by kernel_rfl) (by kernel_rfl) (fun _ _ _ h => h) ?y4 hS ?_
  case y4 => first | (refine Or.inr ⟨by rfl, ?_⟩; with_reducible rfl) | (refine Or.inl ⟨by rfl, ?_⟩; intro wS hSw; obtain ⟨v0, v1, -, -⟩ := box_cells hSw; go_simp; try with_reducible rfl)
  simp only [Act.put, List.setIfInBounds_toArray, List.set_cons_zero, List.set_cons_succ]
  refine wpAnyH_ready (rs := [4]) (by kernel_rfl) (by simp) ?_
  refine AllReadyH.cons (o := ⟨_, _, _, _, _, _⟩) rfl (fun K hK => ?_) AllReadyH.nil
  go_simp
  have HS0 := Lib.hid ((Below.refl w1.heap.size w1).drew)
  refine (st_New (base := w1.heap.size) _ HS0.out.size).mono ?_
  rintro e z ⟨rfl, hst, hb⟩
  have HZ := Lib.hid (HS0.out.trans (hb.mono HS0.out.size))
  have HSt := Lib.hid hst
  have hkz : z.heap[X]? = some (.cells #[.slice ra rl rc, .slice na nl nc] 25 (0, 0)) := (HZ.out.block _ (lt_of_block K11.out)).trans K11.out
  clear hst hb HS0
  go_wp2_with fail
  refine hK.out _ _ hkz (fun hS2 => ?_)
  clear hK K hS hkz
  have hS := hS2
  clear hS2
  try simp only [Act.put, List.setIfInBounds_toArray, List.set_cons_zero, List.set_cons_succ]
  refine wpAnyH_take (i := 5) (oi := ⟨_, _, _, _, _, _⟩) (v := ?v5) rfl (by kernel_rfl) (by kernel_rfl) (by kernel_rfl) (fun _ _ _ h => h) ?y5 hS ?_
  case y5 => first | (refine Or.inr ⟨by rfl, ?_⟩; with_reducible rfl) | (refine Or.inl ⟨by rfl, ?_⟩; intro wS hSw; obtain ⟨v0, v1, -, -⟩ := box_cells hSw; go_simp; try with_reducible rfl)
  simp only [Act.put, List.setIfInBounds_toArray, List.set_cons_zero, List.set_cons_succ]
  refine wpAnyH_ready (rs := [6]) (by kernel_rfl) (by simp) ?_
  refine AllReadyH.cons (o := ⟨_, _, _, _, _, _⟩) rfl (fun K hK => ?_) AllReadyH.nil
  go_simp
  obtain ⟨s, hs⟩ : ∃ s, s = w1.heap.size + 1 := ⟨_, rfl⟩
  have hss : w1.drew.heap.size + 1 = s := hs.symm
  have HSt2 := HSt
  rw [hss] at HSt2
  rw [← hs]
  clear hS HSt hs hss
  have hn := one_new z (.cells #[.int .i64 T, .int .i64 0, .bool false, .slice ra rl rc, .slice na nl nc, .slice wa wl wc, .pointer (some ⟨s, 0, none⟩)] 71 (0, 0))
  have hkz : (z.alloc (.cells #[.int .i64 T, .int .i64 0, .bool false, .slice ra rl rc, .slice na nl nc, .slice wa wl wc, .pointer (some ⟨s, 0, none⟩)] 71 (0, 0))).heap[X]? = some (.cells #[.slice ra rl rc, .slice na nl nc] 25 (0, 0)) := ((HZ.out.trans (hn.1.mono HZ.out.size)).block _ (lt_of_block K11.out)).trans K11.out
  refine hK.out _ _ hkz (fun hS => ?_)
  clear hK K hS hkz hn
  try simp only [Act.put, List.setIfInBounds_toArray, List.set_cons_zero, List.set_cons_succ]
  refine wpAnyH_ready (rs := [7]) (by kernel_rfl) (by simp) ?_
  refine AllReadyH.cons (o := ⟨_, _, _, _, _, _⟩) rfl (fun K hK => ?_) AllReadyH.nil
  go_simp
  have hn := one_new z (.cells #[.int .i64 T, .int .i64 0, .bool false, .slice ra rl rc, .slice na nl nc, .slice wa wl wc, .pointer (some ⟨s, 0, none⟩)] 71 (0, 0))
  refine hK.out _ _ (((HZ.out.trans (hn.1.mono HZ.out.size)).block _ (lt_of_block K11.out)).trans K11.out) (fun hS => ?_)
  clear hK K hS
  try simp only [Act.put, List.setIfInBounds_toArray, List.set_cons_zero, List.set_cons_succ]
  refine wpAnyH_done (by kernel_rfl) ?_ _
  go_upto_region 10 with (fail)
  refine gen_world (S := fun y => Below z.heap.size z y ∧ y.heap[z.heap.size]? = some (.cells #[.int .i64 T, .int .i64 0, .bool false, .slice ra rl rc, .slice na nl nc, .slice wa wl wc, .pointer (some ⟨s, 0, none⟩)] 71 (0, 0))) hn (fun y hy => ?_)
  obtain ⟨hby, hty⟩ := hy
  clear hn
  obtain ⟨tb, htb⟩ : ∃ tb, tb = z.heap.size := ⟨_, rfl⟩
  rw [← htb] at hty ⊢
  have HTX := Lib.hid (show X + 1 < tb by rw [htb]; exact lt_of_block ((HZ.out.block _ (lt_of_block K21.out)).trans K21.out))
  have HB2 := Lib.hid (HZ.out.trans (hby.mono HZ.out.size))
  obtain ⟨C, hC⟩ : ∃ C : Cx, C = ⟨w1, .slice ra rl rc, .slice na nl nc, .slice wa wl wc, R, N, W, tb, s, w1.drew.heap.size, T⟩ := ⟨_, rfl⟩
  have hCx : CxOk C := by
    rw [hC]
    exact ⟨HG.out.later HB1.out, HW.out.later HB1.out, HGv.out, HWl.out, HTl.out, by rw [htb]; exact HZ.out.size⟩
  have hTr : TrS C [] ⟨T, false⟩ y := by
    rw [hC]
    refine ⟨HB2.out, ?_, ⟨_, HSt2.out.later hby⟩, Nat.le_refl _⟩
    unfold trC
    simp only [Int.sub_self]
    exact hty
  have HCall := Lib.hid (grow_all hCx T rule lev p ru [] ⟨T, false⟩ r st' y hTr (LiveOk.nil C) (by rw [hC]; exact HPl.out) HPr.out (by rw [hC]; exact HRu.out) HLv.out (by simp) (Nat.le_refl _) (by rw [hC]; exact HE.out))
  have htb2 : C.tb = tb := by rw [hC]
  rw [htb2] at HCall
  have HCC := Lib.hid hC
  have hw0 : C.w0 = w1 := by rw [hC]
  have HW0 := Lib.hid hw0
  have HTB := Lib.hid htb2
  clear hCx hTr hty hby htb2 hC htb hw0
  go_wp2_with fail
  refine HCall.out.mono ?_
  rintro e z1 ⟨⟨v, rfl, fv, rfl, hfv⟩, htz, hkz⟩
  obtain ⟨fa, fc, rfl⟩ := hfv.1.val
  obtain ⟨m, hm⟩ : ∃ m, m = (foF r).length := ⟨_, rfl⟩
  rw [← hm] at hfv ⊢
  have HFv := Lib.hid hfv
  have HTz := Lib.hid htz
  clear hfv hm hkz
  have hz1 : Below w1.heap.size w1 z1 := by have := htz.bel; rw [HW0.out] at this; exact this
  have HBz := Lib.hid (HB1.out.trans (hz1.mono HB1.out.size))
  have K2z := Lib.hid ((hz1.block _ (lt_of_block K21.out)).trans K21.out)
  unfold foV foC
  clear htz hz1 HCall
  go_upto_region 11 with (fail)
  refine gen_world (S := fun z => Below z1.heap.size z1 z ∧ z.heap[z1.heap.size]? = some (.cells #[.bool (foIs r), .int .i64 (foEn r), .int .i64 (foFar r), .int .i64 (foRt r), .slice fa m fc] 73 (0, 0))) (one_new z1 _) (fun z2 hz => ?_)
  obtain ⟨hbz2, hfz⟩ := hz
  obtain ⟨U, hU⟩ : ∃ U, U = z1.heap.size := ⟨_, rfl⟩
  rw [← hU] at hfz ⊢
  have HUX := Lib.hid (show X + 1 < U by rw [hU]; exact lt_of_block K2z.out)
  have HF2 := Lib.hid hfz
  have HFv2 := Lib.hid (HFv.out.later hbz2)
  have HT2 := Lib.hid (HTz.out.later hbz2)
  have HB3 := Lib.hid (HBz.out.trans (hbz2.mono HBz.out.size))
  have K23 := Lib.hid ((hbz2.block _ (lt_of_block K2z.out)).trans K2z.out)
  clear hbz2 hfz hU HFv HTz HBz K2z
  obtain ⟨-, t1, t2, -, -, -, -⟩ := HT2.out.cells
  rw [HTB.out] at t1 t2
  have hCT : C.T = T := by rw [HCC.out]
  rw [hCT] at t1
  have HT1 := Lib.hid t1
  clear hCT
  obtain ⟨sl, so⟩ := st'
  simp only at t1 t2
  cases so with
  | true =>
    clear t1
    have HF := Lib.hid HF2
    obtain ⟨d0, d1, d2, d3⟩ := four_box K23.out
    obtain ⟨g0, g1, g2, g3⟩ := four_frz K23.out
    go_wp2
    obtain ⟨k4, hk4⟩ := set4 K23.out (.bool false) (.int .i64 0) (.int .i64 0) (.slice none 0 0)
    obtain ⟨q0, q1, q2, q3⟩ := four_box k4
    have hxw : w.heap.size ≤ X + 1 := by have := HX.out; omega
    exact bodyPost_ret (v := .tuple #[.agg #[.bool false, .int .i64 0, .int .i64 0, .slice none 0 0], .int .i64 0, .int .i64 12]) (by simp [results, Tryz.f10, go_sem, q0, q1, q2, q3]) rfl ⟨⟨_, rfl, TwIn.nil _⟩, HB3.out.trans (Keeps.one_below hk4 HB3.out.size hxw)⟩

  | false =>
    have HTb2 := Lib.hid (show z2.heap[tb]? = some (.cells #[.int .i64 sl, .int .i64 ((T : Int) - sl), .bool false, C.rv, C.nv, C.wv, .pointer (some ⟨C.s, 0, none⟩)] 71 (0, 0)) by have h1 := HT2.out.blk; rw [HTB.out] at h1; unfold trC at h1; rw [show C.T = T by rw [HCC.out]] at h1; exact h1)
    obtain ⟨c0, c1, c2, c3, c4⟩ := five_box HF2.out
    clear t1
    cases r with
  | miss fr =>
    simp only [foIs, foEn, foFar, foRt] at c0 c1 c2 c3 HF2 ⊢
    go_upto_region 14 with (fail)
    clear c0 c1 c2 c3 c4 t2
    have hS0 : z2.drew.heap[U]? = some (.cells #[.bool false, .int .i64 0, .int .i64 fr, .int .i64 0, .slice fa m fc] 73 (0, 0)) ∧ z2.drew.heap[tb]? = some (.cells #[.int .i64 sl, .int .i64 ((T : Int) - sl), .bool false, C.rv, C.nv, C.wv, .pointer (some ⟨C.s, 0, none⟩)] 71 (0, 0)) := ⟨HF2.out, HTb2.out⟩
    refine wp_region_held_drew (S := fun z => z.heap[U]? = some (.cells #[.bool false, .int .i64 0, .int .i64 fr, .int .i64 0, .slice fa m fc] 73 (0, 0)) ∧ z.heap[tb]? = some (.cells #[.int .i64 sl, .int .i64 ((T : Int) - sl), .bool false, C.rv, C.nv, C.wv, .pointer (some ⟨C.s, 0, none⟩)] 71 (0, 0))) (by kernel_rfl) hS0 (fun hS => ?_)
    clear hS0
    obtain ⟨zd, hzd⟩ : ∃ zd, zd = z2.drew := ⟨_, rfl⟩
    have hbd : Below z2.heap.size z2 zd := by rw [hzd]; exact (Below.refl _ _).drew
    have K2d := Lib.hid ((hbd.block _ (lt_of_block K23.out)).trans K23.out)
    have HBd := Lib.hid (HB3.out.trans (hbd.mono HB3.out.size))
    have HFd := Lib.hid (HFv2.out.later hbd)
    rw [← hzd] at hS ⊢
    clear hzd hbd
    refine wpAnyH_take (i := 0) (oi := ⟨_, _, _, _, _, _⟩) (v := ?v6) rfl (by kernel_rfl) (by kernel_rfl) (by kernel_rfl) (fun _ _ _ h => h) ?y6 hS ?_
    case y6 => first | (refine Or.inr ⟨by rfl, ?_⟩; with_reducible rfl) | (refine Or.inl ⟨by rfl, ?_⟩; intro wS hSw; obtain ⟨c0, c1, c2, c3, c4⟩ := five_box hSw.1; obtain ⟨-, t1, -, -, -, -, -⟩ := seven_box hSw.2; go_simp; try with_reducible rfl)
    simp only [Act.put, List.setIfInBounds_toArray, List.set_cons_zero, List.set_cons_succ]
    refine wpAnyH_take (i := 1) (oi := ⟨_, _, _, _, _, _⟩) (v := ?v7) rfl (by kernel_rfl) (by kernel_rfl) (by kernel_rfl) (fun _ _ _ h => h) ?y7 hS ?_
    case y7 => first | (refine Or.inr ⟨by rfl, ?_⟩; with_reducible rfl) | (refine Or.inl ⟨by rfl, ?_⟩; intro wS hSw; obtain ⟨c0, c1, c2, c3, c4⟩ := five_box hSw.1; obtain ⟨-, t1, -, -, -, -, -⟩ := seven_box hSw.2; go_simp; try with_reducible rfl)
    simp only [Act.put, List.setIfInBounds_toArray, List.set_cons_zero, List.set_cons_succ]
    refine wpAnyH_take (i := 2) (oi := ⟨_, _, _, _, _, _⟩) (v := ?v8) rfl (by kernel_rfl) (by kernel_rfl) (by kernel_rfl) (fun _ _ _ h => h) ?y8 hS ?_
    case y8 => first | (refine Or.inr ⟨by rfl, ?_⟩; with_reducible rfl) | (refine Or.inl ⟨by rfl, ?_⟩; intro wS hSw; obtain ⟨c0, c1, c2, c3, c4⟩ := five_box hSw.1; obtain ⟨-, t1, -, -, -, -, -⟩ := seven_box hSw.2; go_simp; try with_reducible rfl)
    simp only [Act.put, List.setIfInBounds_toArray, List.set_cons_zero, List.set_cons_succ]
    refine wpAnyH_take (i := 3) (oi := ⟨_, _, _, _, _, _⟩) (v := ?v9) rfl (by kernel_rfl) (by kernel_rfl) (by kernel_rfl) (fun _ _ _ h => h) ?y9 hS ?_
    case y9 => first | (refine Or.inr ⟨by rfl, ?_⟩; with_reducible rfl) | (refine Or.inl ⟨by rfl, ?_⟩; intro wS hSw; obtain ⟨c0, c1, c2, c3, c4⟩ := five_box hSw.1; obtain ⟨-, t1, -, -, -, -, -⟩ := seven_box hSw.2; go_simp; try with_reducible rfl)
    simp only [Act.put, List.setIfInBounds_toArray, List.set_cons_zero, List.set_cons_succ]
    refine wpAnyH_take (i := 4) (oi := ⟨_, _, _, _, _, _⟩) (v := ?v10) rfl (by kernel_rfl) (by kernel_rfl) (by kernel_rfl) (fun _ _ _ h => h) ?y10 hS ?_
    case y10 => first | (refine Or.inr ⟨by rfl, ?_⟩; with_reducible rfl) | (refine Or.inl ⟨by rfl, ?_⟩; intro wS hSw; obtain ⟨c0, c1, c2, c3, c4⟩ := five_box hSw.1; obtain ⟨-, t1, -, -, -, -, -⟩ := seven_box hSw.2; go_simp; try with_reducible rfl)
    simp only [Act.put, List.setIfInBounds_toArray, List.set_cons_zero, List.set_cons_succ]
    refine wpAnyH_take (i := 5) (oi := ⟨_, _, _, _, _, _⟩) (v := ?v11) rfl (by kernel_rfl) (by kernel_rfl) (by kernel_rfl) (fun _ _ _ h => h) ?y11 hS ?_
    case y11 => first | (refine Or.inr ⟨by rfl, ?_⟩; with_reducible rfl) | (refine Or.inl ⟨by rfl, ?_⟩; intro wS hSw; obtain ⟨c0, c1, c2, c3, c4⟩ := five_box hSw.1; obtain ⟨-, t1, -, -, -, -, -⟩ := seven_box hSw.2; go_simp; try with_reducible rfl)
    simp only [Act.put, List.setIfInBounds_toArray, List.set_cons_zero, List.set_cons_succ]
    refine wpAnyH_take (i := 6) (oi := ⟨_, _, _, _, _, _⟩) (v := ?v12) rfl (by kernel_rfl) (by kernel_rfl) (by kernel_rfl) (fun _ _ _ h => h) ?y12 hS ?_
    case y12 => first | (refine Or.inr ⟨by rfl, ?_⟩; with_reducible rfl) | (refine Or.inl ⟨by rfl, ?_⟩; intro wS hSw; obtain ⟨c0, c1, c2, c3, c4⟩ := five_box hSw.1; obtain ⟨-, t1, -, -, -, -, -⟩ := seven_box hSw.2; go_simp; try with_reducible rfl)
    simp only [Act.put, List.setIfInBounds_toArray, List.set_cons_zero, List.set_cons_succ]
    refine wpAnyH_take (i := 7) (oi := ⟨_, _, _, _, _, _⟩) (v := ?v13) rfl (by kernel_rfl) (by kernel_rfl) (by kernel_rfl) (fun _ _ _ h => h) ?y13 hS ?_
    case y13 => first | (refine Or.inr ⟨by rfl, ?_⟩; with_reducible rfl) | (refine Or.inl ⟨by rfl, ?_⟩; intro wS hSw; obtain ⟨c0, c1, c2, c3, c4⟩ := five_box hSw.1; obtain ⟨-, t1, -, -, -, -, -⟩ := seven_box hSw.2; go_simp; try with_reducible rfl)
    simp only [Act.put, List.setIfInBounds_toArray, List.set_cons_zero, List.set_cons_succ]
    refine wpAnyH_ready (rs := [8]) (by kernel_rfl) (by simp) ?_
    refine AllReadyH.cons (o := ⟨_, _, _, _, _, _⟩) rfl (fun K hK => ?_) AllReadyH.nil
    obtain ⟨d0, d1, d2, d3⟩ := four_box K2d.out
    obtain ⟨g0, g1, g2, g3⟩ := four_frz K2d.out
    go_simp
    obtain ⟨k4, hk4⟩ := set4 K2d.out (.bool false) (.int .i64 0) (.int .i64 fr) (.slice none 0 0)
    have HK4 := Lib.hid k4
    have hux := HUX.out
    have htx := HTX.out
    refine hK.out _ _ ⟨hk4.obj hS.1 (by omega), hk4.obj hS.2 (by omega)⟩ (fun hS2 => ?_)
    clear hK K hS hux htx d0 d1 d2 d3 g0 g1 g2 g3 k4
    try simp only [Act.put, List.setIfInBounds_toArray, List.set_cons_zero, List.set_cons_succ]
    refine wpAnyH_ready (rs := [9]) (by kernel_rfl) (by simp) ?_
    refine AllReadyH.cons (o := ⟨_, _, _, _, _, _⟩) rfl (fun K hK => ?_) AllReadyH.nil
    go_simp
    refine hK.out _ _ hS2 (fun hS => ?_)
    clear hK K hS
    try simp only [Act.put, List.setIfInBounds_toArray, List.set_cons_zero, List.set_cons_succ]
    refine wpAnyH_ready (rs := [10]) (by kernel_rfl) (by simp) ?_
    refine AllReadyH.cons (o := ⟨_, _, _, _, _, _⟩) rfl (fun K hK => ?_) AllReadyH.nil
    go_simp
    refine hK.out _ _ hS2 (fun hS => ?_)
    clear hK K hS
    try simp only [Act.put, List.setIfInBounds_toArray, List.set_cons_zero, List.set_cons_succ]
    refine wpAnyH_done (by kernel_rfl) ?_ _
    go_wp2
    obtain ⟨q0, q1, q2, q3⟩ := four_box HK4.out
    have hxw : w.heap.size ≤ X + 1 := by have := HX.out; omega
    exact bodyPost_ret (v := .tuple #[.agg #[.bool false, .int .i64 0, .int .i64 fr, .slice none 0 0], .int .i64 ((T : Int) - sl), .int .i64 0]) (by simp [results, Tryz.f10, go_sem, q0, q1, q2, q3]) rfl ⟨⟨_, rfl, TwIn.nil _⟩, HBd.out.trans (Keeps.one_below hk4 HBd.out.size hxw)⟩
  | hit h =>
    simp only [foIs, foEn, foFar, foRt] at c0 c1 c2 c3 HF2 ⊢
    go_upto_region 15 with (fail)
    clear c0 c1 c2 c3 c4 t2
    have hS0 : z2.drew.heap[U]? = some (.cells #[.bool true, .int .i64 h.en, .int .i64 h.far, .int .i64 h.roots, .slice fa m fc] 73 (0, 0)) ∧ z2.drew.heap[tb]? = some (.cells #[.int .i64 sl, .int .i64 ((T : Int) - sl), .bool false, C.rv, C.nv, C.wv, .pointer (some ⟨C.s, 0, none⟩)] 71 (0, 0)) := ⟨HF2.out, HTb2.out⟩
    refine wp_region_held_drew (S := fun z => z.heap[U]? = some (.cells #[.bool true, .int .i64 h.en, .int .i64 h.far, .int .i64 h.roots, .slice fa m fc] 73 (0, 0)) ∧ z.heap[tb]? = some (.cells #[.int .i64 sl, .int .i64 ((T : Int) - sl), .bool false, C.rv, C.nv, C.wv, .pointer (some ⟨C.s, 0, none⟩)] 71 (0, 0))) (by kernel_rfl) hS0 (fun hS => ?_)
    clear hS0
    obtain ⟨zd, hzd⟩ : ∃ zd, zd = z2.drew := ⟨_, rfl⟩
    have hbd : Below z2.heap.size z2 zd := by rw [hzd]; exact (Below.refl _ _).drew
    have K2d := Lib.hid ((hbd.block _ (lt_of_block K23.out)).trans K23.out)
    have HBd := Lib.hid (HB3.out.trans (hbd.mono HB3.out.size))
    have HFd := Lib.hid (HFv2.out.later hbd)
    rw [← hzd] at hS ⊢
    clear hzd hbd
    refine wpAnyH_take (i := 0) (oi := ⟨_, _, _, _, _, _⟩) (v := ?v14) rfl (by kernel_rfl) (by kernel_rfl) (by kernel_rfl) (fun _ _ _ h => h) ?y14 hS ?_
    case y14 => first | (refine Or.inr ⟨by rfl, ?_⟩; with_reducible rfl) | (refine Or.inl ⟨by rfl, ?_⟩; intro wS hSw; obtain ⟨c0, c1, c2, c3, c4⟩ := five_box hSw.1; obtain ⟨-, t1, -, -, -, -, -⟩ := seven_box hSw.2; go_simp; try with_reducible rfl)
    simp only [Act.put, List.setIfInBounds_toArray, List.set_cons_zero, List.set_cons_succ]
    refine wpAnyH_take (i := 1) (oi := ⟨_, _, _, _, _, _⟩) (v := ?v15) rfl (by kernel_rfl) (by kernel_rfl) (by kernel_rfl) (fun _ _ _ h => h) ?y15 hS ?_
    case y15 => first | (refine Or.inr ⟨by rfl, ?_⟩; with_reducible rfl) | (refine Or.inl ⟨by rfl, ?_⟩; intro wS hSw; obtain ⟨c0, c1, c2, c3, c4⟩ := five_box hSw.1; obtain ⟨-, t1, -, -, -, -, -⟩ := seven_box hSw.2; go_simp; try with_reducible rfl)
    simp only [Act.put, List.setIfInBounds_toArray, List.set_cons_zero, List.set_cons_succ]
    refine wpAnyH_take (i := 2) (oi := ⟨_, _, _, _, _, _⟩) (v := ?v16) rfl (by kernel_rfl) (by kernel_rfl) (by kernel_rfl) (fun _ _ _ h => h) ?y16 hS ?_
    case y16 => first | (refine Or.inr ⟨by rfl, ?_⟩; with_reducible rfl) | (refine Or.inl ⟨by rfl, ?_⟩; intro wS hSw; obtain ⟨c0, c1, c2, c3, c4⟩ := five_box hSw.1; obtain ⟨-, t1, -, -, -, -, -⟩ := seven_box hSw.2; go_simp; try with_reducible rfl)
    simp only [Act.put, List.setIfInBounds_toArray, List.set_cons_zero, List.set_cons_succ]
    refine wpAnyH_take (i := 3) (oi := ⟨_, _, _, _, _, _⟩) (v := ?v17) rfl (by kernel_rfl) (by kernel_rfl) (by kernel_rfl) (fun _ _ _ h => h) ?y17 hS ?_
    case y17 => first | (refine Or.inr ⟨by rfl, ?_⟩; with_reducible rfl) | (refine Or.inl ⟨by rfl, ?_⟩; intro wS hSw; obtain ⟨c0, c1, c2, c3, c4⟩ := five_box hSw.1; obtain ⟨-, t1, -, -, -, -, -⟩ := seven_box hSw.2; go_simp; try with_reducible rfl)
    simp only [Act.put, List.setIfInBounds_toArray, List.set_cons_zero, List.set_cons_succ]
    refine wpAnyH_take (i := 4) (oi := ⟨_, _, _, _, _, _⟩) (v := ?v18) rfl (by kernel_rfl) (by kernel_rfl) (by kernel_rfl) (fun _ _ _ h => h) ?y18 hS ?_
    case y18 => first | (refine Or.inr ⟨by rfl, ?_⟩; with_reducible rfl) | (refine Or.inl ⟨by rfl, ?_⟩; intro wS hSw; obtain ⟨c0, c1, c2, c3, c4⟩ := five_box hSw.1; obtain ⟨-, t1, -, -, -, -, -⟩ := seven_box hSw.2; go_simp; try with_reducible rfl)
    simp only [Act.put, List.setIfInBounds_toArray, List.set_cons_zero, List.set_cons_succ]
    refine wpAnyH_take (i := 5) (oi := ⟨_, _, _, _, _, _⟩) (v := ?v19) rfl (by kernel_rfl) (by kernel_rfl) (by kernel_rfl) (fun _ _ _ h => h) ?y19 hS ?_
    case y19 => first | (refine Or.inr ⟨by rfl, ?_⟩; with_reducible rfl) | (refine Or.inl ⟨by rfl, ?_⟩; intro wS hSw; obtain ⟨c0, c1, c2, c3, c4⟩ := five_box hSw.1; obtain ⟨-, t1, -, -, -, -, -⟩ := seven_box hSw.2; go_simp; try with_reducible rfl)
    simp only [Act.put, List.setIfInBounds_toArray, List.set_cons_zero, List.set_cons_succ]
    refine wpAnyH_take (i := 6) (oi := ⟨_, _, _, _, _, _⟩) (v := ?v20) rfl (by kernel_rfl) (by kernel_rfl) (by kernel_rfl) (fun _ _ _ h => h) ?y20 hS ?_
    case y20 => first | (refine Or.inr ⟨by rfl, ?_⟩; with_reducible rfl) | (refine Or.inl ⟨by rfl, ?_⟩; intro wS hSw; obtain ⟨c0, c1, c2, c3, c4⟩ := five_box hSw.1; obtain ⟨-, t1, -, -, -, -, -⟩ := seven_box hSw.2; go_simp; try with_reducible rfl)
    simp only [Act.put, List.setIfInBounds_toArray, List.set_cons_zero, List.set_cons_succ]
    refine wpAnyH_take (i := 7) (oi := ⟨_, _, _, _, _, _⟩) (v := ?v21) rfl (by kernel_rfl) (by kernel_rfl) (by kernel_rfl) (fun _ _ _ h => h) ?y21 hS ?_
    case y21 => first | (refine Or.inr ⟨by rfl, ?_⟩; with_reducible rfl) | (refine Or.inl ⟨by rfl, ?_⟩; intro wS hSw; obtain ⟨c0, c1, c2, c3, c4⟩ := five_box hSw.1; obtain ⟨-, t1, -, -, -, -, -⟩ := seven_box hSw.2; go_simp; try with_reducible rfl)
    simp only [Act.put, List.setIfInBounds_toArray, List.set_cons_zero, List.set_cons_succ]
    refine wpAnyH_take (i := 8) (oi := ⟨_, _, _, _, _, _⟩) (v := ?v22) rfl (by kernel_rfl) (by kernel_rfl) (by kernel_rfl) (fun _ _ _ h => h) ?y22 hS ?_
    case y22 => first | (refine Or.inr ⟨by rfl, ?_⟩; with_reducible rfl) | (refine Or.inl ⟨by rfl, ?_⟩; intro wS hSw; obtain ⟨c0, c1, c2, c3, c4⟩ := five_box hSw.1; obtain ⟨-, t1, -, -, -, -, -⟩ := seven_box hSw.2; go_simp; try with_reducible rfl)
    simp only [Act.put, List.setIfInBounds_toArray, List.set_cons_zero, List.set_cons_succ]
    refine wpAnyH_take (i := 9) (oi := ⟨_, _, _, _, _, _⟩) (v := ?v23) rfl (by kernel_rfl) (by kernel_rfl) (by kernel_rfl) (fun _ _ _ h => h) ?y23 hS ?_
    case y23 => first | (refine Or.inr ⟨by rfl, ?_⟩; with_reducible rfl) | (refine Or.inl ⟨by rfl, ?_⟩; intro wS hSw; obtain ⟨c0, c1, c2, c3, c4⟩ := five_box hSw.1; obtain ⟨-, t1, -, -, -, -, -⟩ := seven_box hSw.2; go_simp; try with_reducible rfl)
    simp only [Act.put, List.setIfInBounds_toArray, List.set_cons_zero, List.set_cons_succ]
    refine wpAnyH_take (i := 10) (oi := ⟨_, _, _, _, _, _⟩) (v := ?v24) rfl (by kernel_rfl) (by kernel_rfl) (by kernel_rfl) (fun _ _ _ h => h) ?y24 hS ?_
    case y24 => first | (refine Or.inr ⟨by rfl, ?_⟩; with_reducible rfl) | (refine Or.inl ⟨by rfl, ?_⟩; intro wS hSw; obtain ⟨c0, c1, c2, c3, c4⟩ := five_box hSw.1; obtain ⟨-, t1, -, -, -, -, -⟩ := seven_box hSw.2; go_simp; try with_reducible rfl)
    simp only [Act.put, List.setIfInBounds_toArray, List.set_cons_zero, List.set_cons_succ]
    refine wpAnyH_take (i := 11) (oi := ⟨_, _, _, _, _, _⟩) (v := ?v25) rfl (by kernel_rfl) (by kernel_rfl) (by kernel_rfl) (fun _ _ _ h => h) ?y25 hS ?_
    case y25 => first | (refine Or.inr ⟨by rfl, ?_⟩; with_reducible rfl) | (refine Or.inl ⟨by rfl, ?_⟩; intro wS hSw; obtain ⟨c0, c1, c2, c3, c4⟩ := five_box hSw.1; obtain ⟨-, t1, -, -, -, -, -⟩ := seven_box hSw.2; go_simp; try with_reducible rfl)
    simp only [Act.put, List.setIfInBounds_toArray, List.set_cons_zero, List.set_cons_succ]
    refine wpAnyH_ready (rs := [12]) (by kernel_rfl) (by simp) ?_
    refine AllReadyH.cons (o := ⟨_, _, _, _, _, _⟩) rfl (fun K hK => ?_) AllReadyH.nil
    obtain ⟨d0, d1, d2, d3⟩ := four_box K2d.out
    obtain ⟨g0, g1, g2, g3⟩ := four_frz K2d.out
    go_simp
    obtain ⟨k4, hk4⟩ := set4 K2d.out (.bool true) (.int .i64 h.en) (.int .i64 h.far) (.slice fa m fc)
    have HK4 := Lib.hid k4
    have hux := HUX.out
    have htx := HTX.out
    refine hK.out _ _ ⟨hk4.obj hS.1 (by omega), hk4.obj hS.2 (by omega)⟩ (fun hS2 => ?_)
    clear hK K hS hux htx d0 d1 d2 d3 g0 g1 g2 g3 k4
    try simp only [Act.put, List.setIfInBounds_toArray, List.set_cons_zero, List.set_cons_succ]
    refine wpAnyH_ready (rs := [13]) (by kernel_rfl) (by simp) ?_
    refine AllReadyH.cons (o := ⟨_, _, _, _, _, _⟩) rfl (fun K hK => ?_) AllReadyH.nil
    go_simp
    refine hK.out _ _ hS2 (fun hS => ?_)
    clear hK K hS
    try simp only [Act.put, List.setIfInBounds_toArray, List.set_cons_zero, List.set_cons_succ]
    refine wpAnyH_ready (rs := [14]) (by kernel_rfl) (by simp) ?_
    refine AllReadyH.cons (o := ⟨_, _, _, _, _, _⟩) rfl (fun K hK => ?_) AllReadyH.nil
    go_simp
    refine hK.out _ _ hS2 (fun hS => ?_)
    clear hK K hS
    try simp only [Act.put, List.setIfInBounds_toArray, List.set_cons_zero, List.set_cons_succ]
    refine wpAnyH_done (by kernel_rfl) ?_ _
    go_wp2
    obtain ⟨q0, q1, q2, q3⟩ := four_box HK4.out
    have hxw : w.heap.size ≤ X + 1 := by have := HX.out; omega
    exact bodyPost_ret (v := .tuple #[.agg #[.bool true, .int .i64 h.en, .int .i64 h.far, .slice fa m fc], .int .i64 ((T : Int) - sl), .int .i64 0]) (by simp [results, Tryz.f10, go_sem, q0, q1, q2, q3]) rfl ⟨⟨_, rfl, HFd.out.keepT (one_keep (mp := false) hk4 (B := 0) K2d.out (Nat.zero_le _) (List.mem_singleton.2 rfl) (by simp)) (by simp)⟩, HBd.out.trans (Keeps.one_below hk4 HBd.out.size hxw)⟩
end Go.Proofs.YtkimkghldilliaaGreat
