/-
  SpanRows: the walk.
-/
import Derived.Test.YtndminmefacmnaaSnZ
import Derived.Test.YtndminmefacmnaaSnW
namespace Go.Proofs.Ytndminmefacmnaa
open Go.RowKit Go.Lib

/-- what stands while the law goes: the span's box, the copies. -/
structure Rw (X gL : Nat) (fr tz : Int) (vi : Value) (l : List Sg) (t : List UInt8) (u : World) : Prop where
  box : u.heap[X]? = some (.cells #[.int .i64 fr, .int .i64 tz] 23 (0, 0))
  ins : SgsAt u vi l
  lent : LentAt u gL t
theorem Rw.step {u u' : World} {X gL : Nat} {fr tz : Int} {vi : Value} {l : List Sg} {t : List UInt8} (h : Rw X gL fr tz vi l t u) (hb : Below u.heap.size u u') : Rw X gL fr tz vi l t u' :=
  ⟨(hb.block _ (lt_of_block h.box)).trans h.box, h.ins.later hb, (hb.block _ (lt_of_block h.lent)).trans h.lent⟩
/-- both ways of a cut. -/
theorem cutR_all {w w' : World} {e : Ending} {r : Option (List UInt8)} (h : CutR w e w' r) : ∃ ca cc, e = .returned (.tuple #[.slice ca (r.getD []).length cc, .int .i64 (if r.isSome then 0 else 6)]) ∧ w'.ownsRow w.heap.size 5 1 (.slice ca (r.getD []).length cc) (r.getD []).length (bv (r.getD [])) ∧ Below w.heap.size w w' := by
  obtain ⟨h1, hb⟩ := h
  cases r with
  | none => exact ⟨none, 0, h1, World.ownsRow_nil _ _ _ _, hb⟩
  | some x =>
    obtain ⟨v', he, ho⟩ := h1
    obtain ⟨ca, cc, rfl⟩ := own_val ho
    exact ⟨ca, cc, he, ho, hb⟩
theorem lift_at {P : Program} {f : FuncId} {args : Array Value} {B0 : Nat} {w0 : World} {R : Ending} (hz : ∀ u, Below B0 w0 u → B0 ≤ u.heap.size) (h : ∀ u, Below B0 w0 u → Calls P f args u fun e w' => e = R ∧ Below u.heap.size u w') : ∀ u, Below B0 w0 u → Calls P f args u fun e w' => e = R ∧ Below B0 w0 w' :=
  fun u hu => (h u hu).mono fun e w' hh => ⟨hh.1, hu.trans (hh.2.mono (hz u hu))⟩
theorem cutS_len (t : List UInt8) (s : Sg) : ((cutS t s).getD []).length ≤ t.length := by
  unfold cutS
  split
  · simp only [Option.getD_some, List.length_take, List.length_drop]; omega
  · simp
theorem overB_any {base p cc : Nat} {ca : Option Addr} {w : World} {ys : List Value} (h : w.ownsRow base 5 1 (.slice ca p cc) p ys) (hp : p ≤ 1000000) (hbase : base ≤ w.heap.size) :
    Calls Try.prog 32 #[.slice ca p cc] w fun e w' => e = .returned (.tuple #[]) ∧ Below base w w' := by
  rcases h.2 with ⟨hv, h0⟩ | ⟨g, cap, cur, hv, hb, hg, h1, h2, h3, ht⟩
  · simp only [Value.slice.injEq] at hv
    obtain ⟨rfl, rfl, rfl⟩ := hv
    exact (overBNil_any w).mono fun e w' hh => ⟨hh.1, hh.2.mono hbase⟩
  · simp only [Value.slice.injEq] at hv
    obtain ⟨rfl, -, rfl⟩ := hv
    exact (overBOwn_any p cc g _ cur w hg (by omega) h1 (by unfold maxLen at h2; omega) hp rfl).mono fun e w' hh => ⟨hh.1, hh.2.below hbase (fun k e => by omega)⟩
theorem row_block {base n cc : Nat} {ca : Option Addr} {w : World} {ys : List Value} (h : w.ownsRow base 23 2 (.slice ca n cc) n ys) : n = 0 ∨ ∃ (gg : Nat) (cur : Array Value), ca = some ⟨gg, 0, none⟩ ∧ base ≤ gg ∧ w.heap[gg]? = some (.cells cur 23 (0, 0)) ∧ n * 2 ≤ cur.size := by
  rcases h.2 with ⟨hv, h0⟩ | ⟨g, cap, cur, hv, hb, hg, h1, h2, h3, ht⟩
  · exact .inl h0
  · simp only [Value.slice.injEq] at hv
    obtain ⟨rfl, -, rfl⟩ := hv
    exact .inr ⟨g, cur, rfl, hb, hg, by omega⟩
set_option maxRecDepth 100000 in
set_option maxHeartbeats 40000000 in
theorem spanRows_main (fr tz : Int) (v vt : Value) (l : List Sg) (t : List UInt8) (w : World) (h : SgsAt w v l) (ht : BytesAt w vt t) (hok : ∀ s ∈ l, sgOk s) (hto : ∀ s ∈ l, s.to ≤ 9223372036854775807) (htz : tz ≤ 9223372036854775807) (hln : l.length ≤ 1000000000000000) (htn : t.length ≤ 1000000000000000) :
    Calls Try.prog 6 #[.agg #[.int .i64 fr, .int .i64 tz], v, vt] w fun e w' => e = .returned (.bool true) ∧ Below w.heap.size w w' := by
  have H := Lib.hid h
  have HT := Lib.hid ht
  have HOk := Lib.hid hok
  have HTo := Lib.hid hto
  have HTz := Lib.hid htz
  have HAw := Lib.hid (fun u => awake_any u)
  have HKp := fun (u : World) (gL : Nat) (hL : LentAt u gL t) (hb : Below w.heap.size w u) (hl : t.length ≤ 1000000) => keptBytes_any vt t gL u (ht.later hb) hL hl
  replace HKp := Lib.hid HKp
  obtain ⟨ao, cap, rfl⟩ := h.val
  obtain ⟨bo, bb, boff, bcap, rfl, -, -, -, -, -⟩ := ht
  obtain ⟨n, hn⟩ : ∃ n, n = l.length := ⟨_, rfl⟩
  obtain ⟨m, hm⟩ : ∃ m, m = t.length := ⟨_, rfl⟩
  have HN := Lib.hid hn
  have HM := Lib.hid hm
  rw [← hn] at hln H
  rw [← hm] at htn HT
  rw [← hn, ← hm]
  have hw : IntKind.i64.wrap ((n : Int) + m) = (n : Int) + m := IntWalk.i64_in _ (by omega)
  clear h hok hto htz hn hm hln htn
  go_enter Try.func6, Try.ntmps6
  go_upto_region 1 with (fail)
  refine gen_world (S := fun u => Below w.heap.size w u ∧ u.heap[w.heap.size]? = some (.cells #[.int .i64 fr, .int .i64 tz] 23 (0, 0))) (one_new w _) (fun u hu => ?_)
  obtain ⟨hb0, hx⟩ := hu
  have HX := Lib.hid hx
  have HB := Lib.hid hb0
  obtain ⟨X, hX⟩ : ∃ X, X = w.heap.size := ⟨_, rfl⟩
  have HXe := Lib.hid hX
  rw [← hX] at HX ⊢
  clear hb0 hx hX
  by_cases hbig : (300 : Int) < (n : Int) + m
  · go_wp2_with fail
    refine (HAw.out u).mono ?_
    rintro e u2 ⟨rfl, hb⟩
    have HB2 := Lib.hid (HB.out.trans (hb.mono HB.out.size))
    clear hb
    go_wp2
    go_ret
    exact ⟨rfl, HB2.out⟩
  have hnl : n ≤ 300 := by omega
  have hml : m ≤ 300 := by omega
  go_upto_region 3 with (fail)
  have hal := one_new u (.cells #[] 23 (0, 0))
  have HBa := Lib.hid (HB.out.trans (hal.1.mono HB.out.size))
  have HGa := Lib.hid hal.2
  have HSz := Lib.hid (lt_of_block HX.out)
  have HXa := Lib.hid ((hal.1.block _ (lt_of_block HX.out)).trans HX.out)
  clear hal
  go_wp2_with (at_builtin; refine step_copyS _ rfl _ _ rfl (X + 1) (lt_of_block HXa.out) _ rfl HGa.out HSz.out _ l rfl (H.out.later HBa.out) (by rw [← HN.out]; omega) ?_; intro vi u3 ho hb3)
  have HB3 := Lib.hid (HBa.out.trans (hb3.mono (by have := HXe.out; omega)))
  have HX3 := Lib.hid ((hb3.block X (by omega)).trans HXa.out)
  have HI3 := Lib.hid ho.at
  obtain ⟨ia, ic, rfl⟩ := HI3.out.val
  clear ho hb3 HX HB HBa HXa HGa HSz
  go_wp2_with fail
  refine (lentBytes_any _ t u3 (HT.out.later HB3.out) (by rw [← HM.out]; omega)).mono ?_
  rintro e u4 ⟨rfl, hL, hb⟩
  obtain ⟨gL, hgL⟩ : ∃ gL, gL = u3.heap.size := ⟨_, rfl⟩
  rw [← hgL] at hL ⊢
  rw [← HN.out, ← HM.out]
  have R4 := Lib.hid (show Rw X gL fr tz (.slice ia l.length ic) l t u4 from ⟨(hb.block _ (lt_of_block HX3.out)).trans HX3.out, HI3.out.later hb, hL⟩)
  have HB4 := Lib.hid (HB3.out.trans (hb.mono HB3.out.size))
  clear hb hL hgL HX3 HI3 HB3
  obtain ⟨x0, x1⟩ := two_box R4.out.box
  have R4n := R4
  rw [← HN.out] at R4n
  go_wp2_with fail
  refine (gaps_any fr tz _ l u4 R4n.out.ins (by rw [← HN.out]; omega) HTz.out).mono ?_
  rintro e u5 ⟨vg, rfl, hg, hb⟩
  have HG5 := Lib.hid hg
  have HC5 := Lib.hid hb
  obtain ⟨ga, gc, rfl⟩ := own_val hg
  clear hg hb x0 x1
  have R5 := Lib.hid (R4n.out.step HC5.out)
  obtain ⟨x0, x1⟩ := two_box R5.out.box
  have HLb := Lib.hid (lent_bytes R5.out.lent (by rw [← HM.out]; omega))
  rw [← HM.out] at HLb
  go_wp2_with fail
  refine (sCut_any fr tz _ t u5 HLb.out (by rw [← HM.out]; omega)).mono ?_
  rintro e u6 hcr
  obtain ⟨ca, cc, rfl, hc, hb⟩ := cutR_all hcr
  obtain ⟨xs, hxs⟩ : ∃ xs, xs = (cutS t ⟨fr, tz⟩).getD [] := ⟨_, rfl⟩
  obtain ⟨ec, hec⟩ : ∃ ec : Int, ec = if (cutS t ⟨fr, tz⟩).isSome then 0 else 6 := ⟨_, rfl⟩
  have hxl : xs.length ≤ 300 := by rw [hxs]; have := cutS_len t ⟨fr, tz⟩; rw [← HM.out] at this; omega
  rw [← hxs] at hc
  rw [← hxs, ← hec]
  have HXs := Lib.hid hxs
  have HEc := Lib.hid hec
  obtain ⟨p, hp⟩ : ∃ p, p = xs.length := ⟨_, rfl⟩
  have HP := Lib.hid hp
  rw [← hp] at hc hxl ⊢
  have HCo := Lib.hid hc
  have HC6 := Lib.hid hb
  have R6 := Lib.hid (R5.out.step hb)
  have HB6 := Lib.hid ((HB4.out.trans (HC5.out.mono HB4.out.size)).trans (hb.mono (Nat.le_trans HB4.out.size HC5.out.size)))
  clear hcr hxs hec hp hc hb x0 x1 HLb
  obtain ⟨x0, x1⟩ := two_box R6.out.box
  go_wp2_with fail
  refine (rCut_any fr tz _ t u6 (HT.out.later HB6.out) (by rw [← HM.out]; omega)).mono ?_
  rintro e u7 hcr
  obtain ⟨da, dc, rfl, hd, hb⟩ := cutR_all hcr
  rw [← HXs.out] at hd
  rw [← HXs.out, ← HEc.out]
  rw [← HP.out] at hd ⊢
  have hCo7 : u7.ownsRow u5.heap.size 5 1 (.slice ca p cc) p (bv xs) := (Keeps.ofNew hb (fun _ => False)).row HCo.out (fun _ _ h => h)
  have HCa := Lib.hid (show BytesAt u7 (.slice ca p cc) xs from by rw [HP.out] at hCo7 ⊢; exact bytes_own hCo7)
  have HDa := Lib.hid (show BytesAt u7 (.slice da p dc) xs from by rw [HP.out] at hd ⊢; exact bytes_own hd)
  have HCo7 := Lib.hid hCo7
  have HC7 := Lib.hid (HC6.out.trans (hb.mono HC6.out.size))
  have R7 := Lib.hid (R6.out.step hb)
  have HB7 := Lib.hid (HB6.out.trans (hb.mono HB6.out.size))
  have HG7 := Lib.hid (HG5.out.later HC7.out)
  clear hcr hd hb hCo7 x0 x1 R6 HB6 HCo HC6
  go_upto_region 7 with (fail)
  obtain ⟨B0, hB0⟩ : ∃ B0, B0 = u7.heap.size := ⟨_, rfl⟩
  have HBm := Lib.hid (show w.heap.size ≤ B0 from by rw [hB0]; exact HB7.out.size)
  have HSz := Lib.hid (show ∀ u, Below B0 u7 u → B0 ≤ u.heap.size from fun u h => by rw [hB0] at h ⊢; exact h.size)
  have HS := Lib.hid (show Below B0 u7 u7 from by rw [hB0]; exact Below.refl u7.heap.size u7)
  have HRl := Lib.hid (show ∀ u, Below B0 u7 u → Rw X gL fr tz (.slice ia n ic) l t u from fun u h => by rw [hB0] at h; exact R7.out.step h)
  have HGl := Lib.hid (show ∀ u, Below B0 u7 u → SgsAt u (.slice ga _ gc) (gapsS ⟨fr, tz⟩ l) from fun u h => by rw [hB0] at h; exact (HG7.out.later h).at)
  have HCl := Lib.hid (show ∀ u, Below B0 u7 u → BytesAt u (.slice ca p cc) xs from fun u h => by rw [hB0] at h; exact HCa.out.later h)
  have HDl := Lib.hid (show ∀ u, Below B0 u7 u → BytesAt u (.slice da p dc) xs from fun u h => by rw [hB0] at h; exact HDa.out.later h)
  have HVl := Lib.hid (show ∀ u, Below B0 u7 u → SgsAt u (.slice ao n cap) l from fun u h => H.out.later (HB7.out.trans (h.mono HBm.out)))
  have HCw := Lib.hid (show ∀ u, Below B0 u7 u → u.ownsRow u5.heap.size 5 1 (.slice ca p cc) p (bv xs) ∧ Below u5.heap.size u5 u from fun u h => by rw [hB0] at h; exact ⟨(Keeps.ofNew h (fun _ => False)).row HCo7.out (fun _ _ h => h), HC7.out.trans (h.mono HC7.out.size)⟩)
  clear hB0
  have hll : l.length ≤ 300 := by rw [← HN.out]; exact hnl
  have HLl := Lib.hid hll
  obtain ⟨⟨jf, jt⟩, hj⟩ : ∃ j, joinS l = j := ⟨_, rfl⟩
  obtain ⟨nb, hnb⟩ : ∃ nb, nestS l = nb := ⟨_, rfl⟩
  have L8 := Lib.hid (lift_at HSz.out (fun u hu => sameBytes_any _ _ xs u (HCl.out u hu) (HDl.out u hu)))
  have L17 := Lib.hid (lift_at HSz.out (fun u hu => sJoin_any _ l u (HRl.out u hu).ins (by have := HLl.out; omega)))
  have L19 := Lib.hid (lift_at HSz.out (fun u hu => rJoin_any _ l u (HVl.out u hu) (by have := HLl.out; omega)))
  have L24 := Lib.hid (lift_at HSz.out (fun u hu => sNested_any _ l u (HRl.out u hu).ins (by have := HLl.out; omega) HTo.out))
  have L26 := Lib.hid (lift_at HSz.out (fun u hu => rNested_any _ l u (HVl.out u hu) (by have := HLl.out; omega) HTo.out))
  rw [hj] at L17 L19
  rw [hnb] at L24 L26
  simp only [sgv] at L17 L19
  have hse := sg_eql
  clear hj hnb hll
  obtain ⟨x0, x1⟩ := two_box (HRl.out u7 HS.out).box
  go_wp2_with fail
  refine (rGaps_any fr tz _ l _ (HVl.out _ HS.out) HOk.out (by have := HLl.out; omega) HTz.out).mono ?_
  rintro e w1 ⟨v', rfl, ho, hb⟩
  replace HS := Lib.hid (HS.out.trans (hb.mono (HSz.out _ HS.out)))
  have HO := Lib.hid ho
  clear ho hb x0 x1
  go_wp2_with fail
  refine (same_any _ _ (gapsS ⟨fr, tz⟩ l) _ (HGl.out _ HS.out) HO.out.at).mono ?_
  rintro e w2 ⟨rfl, hb⟩
  replace HS := Lib.hid (HS.out.trans (hb.mono (HSz.out _ HS.out)))
  clear hb HO
  go_wp2_with fail
  refine (L8.out _ HS.out).mono ?_
  rintro e w3 ⟨rfl, hS⟩
  replace HS := Lib.hid hS
  clear hS
  go_wp2_with fail
  refine (L17.out _ HS.out).mono ?_
  rintro e w4 ⟨rfl, hS⟩
  replace HS := Lib.hid hS
  clear hS
  go_wp2_with fail
  refine (L19.out _ HS.out).mono ?_
  rintro e w5 ⟨rfl, hS⟩
  replace HS := Lib.hid hS
  clear hS
  go_wp2_with fail
  refine (L24.out _ HS.out).mono ?_
  rintro e w6 ⟨rfl, hS⟩
  replace HS := Lib.hid hS
  clear hS
  go_wp2_with fail
  refine (L26.out _ HS.out).mono ?_
  rintro e w7 ⟨rfl, hS⟩
  replace HS := Lib.hid hS
  clear hS
  clear L8 L17 L19 L24 L26
  obtain ⟨hcw, h57⟩ := HCw.out _ HS.out
  have H57 := Lib.hid h57
  have HCc := Lib.hid (overB_any hcw (by omega) h57.size)
  clear hcw h57
  go_wp2_with fail
  refine HCc.out.mono ?_
  rintro e w8 ⟨rfl, hb⟩
  have H58 := Lib.hid (H57.out.trans hb)
  have H48 := Lib.hid (HC5.out.trans (H58.out.mono HC5.out.size))
  have HGw := HG5.out.later H58.out
  clear hb HCc HCw HCl HDl HGl HVl HRl
  obtain ⟨ng, hng⟩ : ∃ ng, ng = (gapsS ⟨fr, tz⟩ l).length := ⟨_, rfl⟩
  have hng2 : ng ≤ 301 := by rw [hng]; have := gapsS_len ⟨fr, tz⟩ l; have := HLl.out; omega
  unfold SgOwn at HGw
  rw [← hng] at HGw ⊢
  have HGr := Lib.hid (row_block HGw)
  clear HGw hng
  go_wp2
  go_loopw [15] (fun i wr => ∃ k : Nat, k ≤ ng ∧ i = .int .i64 k ∧ Hid (ng = 0 ∨ ∃ (gg : Nat) (cur : Array Value), ga = some ⟨gg, 0, none⟩ ∧ u4.heap.size ≤ gg ∧ wr.heap[gg]? = some (.cells cur 23 (0, 0)) ∧ ng * 2 ≤ cur.size) ∧ Hid (Below u4.heap.size u4 wr)) (fun i _ => ng - (intOf i).toNat)
  case atStart => exact ⟨0, by omega, rfl, HGr, H48⟩
  case round =>
    obtain ⟨k, hk, rfl, HGb, HBk⟩ := hrel
    by_cases hlt : k < ng
    · have hlt' : (k : Int) < ng := by omega
      rcases HGb.out with h0 | ⟨gg, cur, rfl, hgg, hbl, hsz⟩
      · omega
      have hc : ∀ j, j < ng * 2 → ∃ u, wr.cell? ⟨gg, j, none⟩ = some u := fun j hj => by
        rw [(block_cell' hbl _).1]
        exact ⟨_, Array.getElem?_eq_getElem (by omega)⟩
      obtain ⟨u0, c0⟩ := hc (k * 2) (by omega)
      obtain ⟨u1, c1⟩ := hc (k * 2 + 1) (by omega)
      have f0 := (block_cell' hbl (k * 2)).2
      have f1 := (block_cell' hbl (k * 2 + 1)).2
      have HBl := Lib.hid hbl
      have HSzc := Lib.hid hsz
      have HGg := Lib.hid hgg
      clear hc hbl hsz hgg HGb HGr
      go_wp2
      go_roundw
      case rel => exact ⟨k + 1, by omega, by go_num, Lib.hid (.inr ⟨gg, _, rfl, HGg.out, block_setCell' (block_setCell' HBl.out), by simp only [Array.size_setIfInBounds]; exact HSzc.out⟩), Lib.hid (HBk.out.trans (Keeps.below (((Keeps.refl (fun k => k = gg) wr).setCell (p := ⟨gg, k * 2, none⟩) rfl _).setCell (p := ⟨gg, k * 2 + 1, none⟩) rfl _) HBk.out.size (fun k e => by have := HGg.out; omega)))⟩
      case measure => simp [intOf]; omega
    · have hlt' : ¬ (k : Int) < ng := by omega
      have RF := Lib.hid (R4n.out.step HBk.out)
      have HBF := Lib.hid (HB4.out.trans (HBk.out.mono HB4.out.size))
      go_wp2_with fail
      refine (same_any _ _ l _ RF.out.ins (H.out.later HBF.out)).mono ?_
      rintro e w9 ⟨rfl, hb⟩
      replace RF := Lib.hid (RF.out.step hb)
      replace HBF := Lib.hid (HBF.out.trans (hb.mono HBF.out.size))
      clear hb
      go_wp2_with fail
      have hkp := HKp.out w9 gL RF.out.lent HBF.out (by rw [← HM.out]; omega)
      rw [← HM.out] at hkp
      refine hkp.mono ?_
      try clear hkp
      rintro e w10 ⟨rfl, hb⟩
      replace HBF := Lib.hid (HBF.out.trans (hb.mono HBF.out.size))
      clear hb
      go_wp2_with fail
      refine (HAw.out _).mono ?_
      rintro e w11 ⟨rfl, hb⟩
      replace HBF := Lib.hid (HBF.out.trans (hb.mono HBF.out.size))
      clear hb
      go_wp2
      go_ret
      exact ⟨rfl, HBF.out⟩
end Go.Proofs.Ytndminmefacmnaa
