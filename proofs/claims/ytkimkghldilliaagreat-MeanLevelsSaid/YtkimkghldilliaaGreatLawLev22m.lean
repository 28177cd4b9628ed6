import Derived.Test.YtkimkghldilliaaGreatLvDm
import Derived.Test.YtkimkghldilliaaGreatAwKm
import Derived.Deep.CutBlock
import Derived.Deep.DeepCutAuto
import Derived.ChangeMaps5
namespace Go.Proofs.YtkimkghldilliaaGreat
open Go.RowKit Go.Lib

theorem gen_anyH {P : Program} {md : Region.Mode} {ops : Array Oper} {Q : Exit → Act → World → Prop} {S : World → Prop} {fuel : Nat} {listed : Array Bool} {a : Act} {w : World} (S2 : World → Prop) (h : S2 w)
    (k : ∀ w', S2 w' → wpAnyH P md ops Q S fuel listed a w') : wpAnyH P md ops Q S fuel listed a w := k w h
theorem own_get2 {w : World} {base n size : Nat} {e : TypeId} {xs : List Value} {g cap : Nat} (h : w.ownsRow base e size (.slice (some ⟨g, 0, none⟩) n cap) n xs) {j : Nat} {u : Value} (hu : xs[j]? = some u) :
    w.cell? ⟨g, j, none⟩ = some u ∧ w.frozen? ⟨g, j, none⟩ = false := by
  have hc := h.cells (g := g) rfl j u hu
  have hadd : (⟨g, 0, none⟩ : Addr).add j = ⟨g, j, none⟩ := by unfold Addr.add; split <;> simp_all
  rw [hadd] at hc
  refine ⟨hc, ?_⟩
  rcases h.2 with ⟨h0, _⟩ | ⟨g', cap', cur, hv, hb, hg, _⟩
  · simp at h0
  · simp only [Value.slice.injEq, Option.some.injEq, Addr.mk.injEq, and_true, true_and] at hv
    obtain ⟨rfl, rfl⟩ := hv
    exact (block_cell' hg j).2
theorem two_cells {w : World} {b : Nat} {x0 x1 : Value} {t : TypeId} (h : w.heap[b]? = some (.cells #[x0, x1] t (0, 0))) : w.cell? ⟨b, 0, none⟩ = some x0 ∧ w.cell? ⟨b, 1, none⟩ = some x1 := ⟨(block_cell' h 0).1, (block_cell' h 1).1⟩
set_option maxRecDepth 100000 in
set_option maxHeartbeats 2000000 in
theorem last_any (c : UInt8) (wv : Value) (W : List UInt8) (fr e : Nat) (w : World) (hw : BytesAt w wv W) (hfe : fr ≤ e) (he : e ≤ W.length) (hW : W.length ≤ 60) :
    Calls Tryz.prog 18 #[wv, .agg #[.int .i64 fr, .int .i64 e], .int .u8 (c.toNat : Int)] w fun en w' => en = .returned (.int .i64 (lastI W c fr (e - fr))) ∧ Below w.heap.size w w' := by
  obtain ⟨ao, b, off, cap, rfl, hl, hm, hnil, hao, hc⟩ := hw
  have HC := Lib.hid hc
  have HA := Lib.hid hao
  obtain ⟨wl, hwl⟩ : ∃ wl, wl = W.length := ⟨_, rfl⟩
  have HWl := Lib.hid hwl
  rw [← hwl] at he hW ⊢
  have HH := Lib.hid (And.intro hfe (And.intro he hW))
  clear hc hao hnil hl hm hwl
  go_enter Tryz.func18, Tryz.ntmps18
  go_upto_region 1 with (fail)
  refine gen_world (S := fun u => Below w.heap.size w u ∧ u.heap[w.heap.size]? = some (.cells #[.int .i64 fr, .int .i64 e] 48 (0, 0))) (one_new w _) (fun u hu => ?_)
  obtain ⟨hb, h1⟩ := hu
  have HB := Lib.hid hb
  have H1 := Lib.hid h1
  obtain ⟨X, hX⟩ : ∃ X, X = w.heap.size := ⟨_, rfl⟩
  have HX := Lib.hid hX
  rw [← hX] at H1 ⊢
  clear hb h1 hX
  obtain ⟨v0, v1⟩ := two_cells H1.out
  have hs0 : IntKind.i64.wrap ((e : Int) - 1) = (e : Int) - 1 := IntWalk.i64_in _ (by omega)
  clear hfe he hW
  go_wp2
  clear v0 v1 hs0
  go_loopw [7] (fun i wr => ∃ n : Nat, i = .int .i64 (((fr + n : Nat) : Int) - 1) ∧ fr + n ≤ wl ∧ Hid (lastI W c fr (e - fr) = lastI W c fr n) ∧ Hid (Below u.heap.size u wr)) (fun i _ => (intOf i + 1 - fr).toNat)
  case atStart => exact ⟨e - fr, by have := HH.out; rw [show fr + (e - fr) = e by omega], by have := HH.out; omega, Lib.hid rfl, Lib.hid (Below.refl _ _)⟩
  case round =>
    obtain ⟨n, rfl, hn, HL, HBr⟩ := hrel
    have H1r := Lib.hid ((HBr.out.block _ (lt_of_block H1.out)).trans H1.out)
    obtain ⟨v0, v1⟩ := two_cells H1r.out
    cases n with
    | zero =>
      have hlt : ¬ ((fr + 0 : Nat) : Int) - 1 ≥ (fr : Int) := by omega
      obtain ⟨j, hj⟩ : ∃ j : Int, j = ((fr + 0 : Nat) : Int) - 1 := ⟨_, rfl⟩
      rw [← hj] at hlt ⊢
      clear hj
      go_wp2
      go_ret
      rw [HL.out]
      exact ⟨rfl, HB.out.trans (HBr.out.mono HB.out.size)⟩
    | succ n =>
      obtain ⟨j, hj⟩ : ∃ j, j = fr + n := ⟨_, rfl⟩
      rw [show ((fr + (n + 1) : Nat) : Int) - 1 = (j : Int) by omega]
      have hjl : j < wl := by omega
      have hjl2 : (j : Int) < wl := by omega
      have hge : (j : Int) ≥ (fr : Int) := by omega
      obtain rfl := HA.out (by rw [← HWl.out]; omega)
      have hcell := cell_later HBr.out (cell_later HB.out (HC.out j (by rw [← HWl.out]; exact hjl)))
      obtain ⟨x, hx⟩ : ∃ x, x = W[j]'(by rw [← HWl.out]; exact hjl) := ⟨_, rfl⟩
      rw [← hx] at hcell
      have HX2 := Lib.hid (show W[fr + n]? = some x by rw [← hj, hx]; exact List.getElem?_eq_getElem _)
      have HJ := Lib.hid hj
      have hs1 : IntKind.i64.wrap ((j : Int) - 1) = (j : Int) - 1 := IntWalk.i64_in _ (by have := HH.out; omega)
      clear hx hj
      by_cases hxc : x = c
      · subst hxc
        go_wp2
        go_ret
        refine ⟨?_, HB.out.trans (HBr.out.mono HB.out.size)⟩
        rw [HL.out, lastI, if_pos HX2.out, HJ.out]
        rfl
      · have h4 : ((x.toNat : Int) == (c.toNat : Int)) = false := by
          rw [beq_eq_false_iff_ne]
          intro e
          exact hxc (UInt8.toNat_inj.1 (by exact_mod_cast e))
        have h5 : ¬ ((x.toNat : Int) = (c.toNat : Int)) := by simpa using h4
        have HXc := Lib.hid hxc
        clear hxc
        go_wp2
        refine ⟨⟨n, by rw [← HJ.out], by omega, Lib.hid ?_, HBr⟩, by simp only [intOf]; omega⟩
        rw [HL.out, lastI, if_neg (by rw [HX2.out]; intro e; exact HXc.out (Option.some.inj e))]
def cByte (W : List UInt8) (j : Nat) (c : UInt8) : Prop := W[j]? = some c
set_option maxRecDepth 100000 in
set_option maxHeartbeats 8000000 in
theorem levels_any (wv : Value) (W : List UInt8) (w : World) (hw : BytesAt w wv W) :
    Calls Tryz.prog 5 #[wv] w fun e w' => e = .returned (.bool true) ∧ Below w.heap.size w w' := by
  obtain ⟨ao, b, off, cap, rfl, hl, hm, hnil, hao, hc⟩ := id hw
  have HC := Lib.hid hc
  have HA := Lib.hid hao
  have HW := Lib.hid hw
  obtain ⟨wl, hwl⟩ : ∃ wl, wl = W.length := ⟨_, rfl⟩
  have HWl := Lib.hid hwl
  rw [← hwl] at HW ⊢
  clear hc hao hnil hl hm hwl hw
  go_enter Tryz.func5, Tryz.ntmps5
  go_wp2_with fail
  refine (awake_any w).mono ?_
  rintro e u ⟨rfl, hb⟩
  have B0 := Lib.hid hb
  clear hb
  by_cases g1 : (wl : Int) > 60
  · go_wp2
    go_ret
    exact ⟨rfl, B0.out⟩
  have HW6 := Lib.hid (show W.length ≤ 60 by have := HWl.out; omega)
  go_wp2_with fail
  refine (known_1 1 u (by decide)).mono ?_
  rintro e w1 ⟨rv, nv, N, rfl, hm, hR, hO, hB⟩
  have HM := Lib.hid hm
  have HR := Lib.hid hR
  have HO := Lib.hid hO
  have B1 := Lib.hid (B0.out.trans (hB.mono B0.out.size))
  clear hm hR hO hB
  obtain ⟨ra, rc, hrv⟩ := own_val HR.out
  have hrv2 : rv = .slice ra 1 rc := hrv
  subst hrv2
  clear hrv
  obtain ⟨na, nc, hnv⟩ := own_val HO.out.row
  subst hnv
  obtain ⟨nl, hnl⟩ : ∃ nl, nl = N.length := ⟨_, rfl⟩
  rw [← hnl] at HO ⊢
  clear hnl
  have HMM := Lib.hid (fun (r : Fo) (st' : Ss) he => match_made (P := knN 1) (R := knR 1) (W := W) (ru := ⟨nameN 0, 0⟩) (rule := 0) (p := 0) (T := 4194304) (lev := 0) (r := r) (st' := st') w1 HR.out HO.out rfl HM.out (kn_nd (by decide)) (HW.out.later B1.out) (kn_right (by decide)) (by have := HW6.out; omega) (by decide) rfl (by decide) (Nat.zero_le _) (by decide) he)
  rw [lvN_eq, lvR_eq] at HMM
  by_cases hA : W[0]? = some 97
  · obtain ⟨y, far, l, y1, y2, y3⟩ := levels_hit HW6.out hA
    have hylen := Xp.len_pos y
    have hyfit := Xp.ok_fits y1
    rw [Nat.zero_add] at hyfit
    go_wp2_with fail
    refine (HMM.out _ _ y3).mono ?_
    rintro e z ⟨⟨tv, he, ht⟩, hb⟩
    obtain ⟨L, hL⟩ : ∃ L, L = (y.tw 0 0).length := ⟨_, rfl⟩
    obtain ⟨ye, hye⟩ : ∃ ye, ye = y.len := ⟨_, rfl⟩
    have he2 : e = .returned (.tuple #[.agg #[.bool true, .int .i64 ye, .int .i64 far, tv], .int .i64 (aSp 4194304 ⟨l, false⟩), .int .i64 0]) := by rw [hye]; exact he
    subst he2
    clear he
    generalize aSp 4194304 ⟨l, false⟩ = sp
    have ht2 : TwIn z tv (y.tw 0 0) := ht
    clear ht
    obtain ⟨ta, tc, htv⟩ := ht2.val'
    rw [← hL] at htv
    subst htv
    have HLn := Lib.hid hL
    have HYe := Lib.hid hye
    have HY1 := Lib.hid y1
    have HY2 := Lib.hid y2
    have HAl := Lib.hid (Xp.ok_alt y1)
    have HNode := Lib.hid (fun i (hi : i < (y.tw 0 0).length) => node_p HW6.out y1 hi)
    have HSm := Lib.hid (tree_small HW6.out y1)
    have hye1 : 0 < ye := by omega
    have hye2 : ye ≤ wl := by have := HWl.out; omega
    have HYl := Lib.hid (And.intro hye1 hye2)
    have HAA := Lib.hid hA
    clear hL hye y1 y2 y3 hylen hyfit hA hye1 hye2 HMM
    have HT := Lib.hid ht2
    have BZ := Lib.hid (B1.out.trans (hb.mono B1.out.size))
    clear ht2 hb
    go_upto_region 6 with (fail)
    refine gen_world (S := fun u => Below z.heap.size z u ∧ u.heap[z.heap.size]? = some (.cells #[.bool true, .int .i64 (ye : Int), .int .i64 far, .slice ta L tc] 35 (0, 0))) (one_new z _) (fun u1 hu => ?_)
    obtain ⟨hb, k1⟩ := hu
    have HTu := Lib.hid (HT.out.later hb)
    have BU := Lib.hid (BZ.out.trans (hb.mono BZ.out.size))
    obtain ⟨F, hF⟩ : ∃ F, F = z.heap.size := ⟨_, rfl⟩
    rw [← hF] at k1 ⊢
    have HF := Lib.hid k1
    clear hb k1 hF HT BZ
    obtain ⟨x0, x1, x2, x3⟩ := four_box HF.out
    have HTR := Lib.hid (show TwRow u1 (.slice ta L tc) (y.tw 0 0) from HTu.out.row HSm.out (by rw [← HLn.out]; have h1 := HLn.out; rw [Xp.tw_len, Xp.sz_len] at h1; have := HYe.out; have := HYl.out; have := HW6.out; have := HWl.out; unfold lim; omega))
    have HByte := Lib.hid (fun (ww : World) (hb : Below u1.heap.size u1 ww) (j : Nat) (hj : j < wl) => show ∃ x, W[j]? = some x ∧ ao = some ⟨b, off, none⟩ ∧ ww.cell? ⟨b, off + j, none⟩ = some (.int .u8 (x.toNat : Int)) from ⟨W[j]'(by rw [← HWl.out]; exact hj), List.getElem?_eq_getElem _, HA.out (by rw [← HWl.out]; omega), cell_later hb (cell_later BU.out (HC.out j (by rw [← HWl.out]; exact hj)))⟩)
    have HWu := Lib.hid (fun (ww : World) (hb : Below u1.heap.size u1 ww) => (HW.out.later BU.out).later hb)
    obtain ⟨xa, hxa, hao, hcell⟩ := HByte.out u1 (Below.refl _ _) 0 (by have := HYl.out; omega)
    subst hao
    have hxa2 : xa = 97 := by have := HAA.out; rw [hxa] at this; exact Option.some.inj this
    subst hxa2
    have hcell2 : u1.cell? ⟨b, off, none⟩ = some (.int .u8 97) := hcell
    have hwl0 : (0 : Int) < wl := by have := HYl.out; omega
    have hwl1 : 0 < wl := by have := HYl.out; omega
    clear hcell hxa
    go_upto_block 0 with (fail)
    clear hcell2 hwl0 hwl1 x0 x1 x2 x3
    go_cut [6] (fun y6 wx => y6 = .int .i64 (ye : Int) ∧ Hid (Below u1.heap.size u1 wx))
    case first =>
      go_wp2_with fail
      go_loopw [6] (fun a wr => ∃ e : Nat, a = .int .i64 e ∧ e ≤ ye ∧ e % 2 = 1 ∧ Hid (Below u1.heap.size u1 wr)) (fun a _ => ye - (intOf a).toNat)
      case atStart => exact ⟨1, rfl, HYl.out.1, rfl, Lib.hid (by first | exact Below.refl _ _ | exact below_draws (Below.refl _ _) _)⟩
      case round =>
        obtain ⟨e, rfl, hle, hodd, HBr⟩ := hrel
        have hs1 : IntKind.i64.wrap ((e : Int) + 1) = ((e + 1 : Nat) : Int) := by rw [IntWalk.i64_in _ (by have := HYl.out; have := HW6.out; have := HWl.out; omega)]; omega
        obtain ⟨e1, he1⟩ : ∃ e1, e1 = e + 1 := ⟨_, rfl⟩
        rw [← he1] at hs1
        have HE1 := Lib.hid he1
        clear he1
        by_cases hey : e < ye
        · have hal := HAl.out.2 e (by rw [← HYe.out]; exact hey)
          have hpar := HAl.out.1
          rw [← HYe.out] at hpar
          have hsg := hal.2 hodd
          have ha := (HAl.out.2 e1 (by rw [← HYe.out]; have := HE1.out; omega)).1 (by have := HE1.out; omega)
          rw [Nat.zero_add] at hsg ha
          obtain ⟨q0, hq0, -, hc0⟩ := HByte.out wr HBr.out e (by have := HYl.out; omega)
          obtain ⟨q1, hq1, -, hc1⟩ := HByte.out wr HBr.out e1 (by have := HYl.out; have := HE1.out; omega)
          have hq1b : q1 = 97 := by rw [hq1] at ha; exact Option.some.inj ha
          subst hq1b
          have hc1b : wr.cell? ⟨b, off + e1, none⟩ = some (.int .u8 97) := hc1
          have hi0 : (e : Int) < wl := by have := HYl.out; omega
          have hi1 : (e1 : Int) < wl := by have := HYl.out; have := HE1.out; omega
          have hi2 : e < wl := by omega
          have hi3 : e1 < wl := by omega
          have hs2 : IntKind.i64.wrap ((e : Int) + 2) = ((e + 2 : Nat) : Int) := by rw [IntWalk.i64_in _ (by have := HYl.out; have := HW6.out; have := HWl.out; omega)]; omega
          have HOd := Lib.hid (And.intro hodd (And.intro hle hpar))
          have HEy := Lib.hid hey
          clear hal hpar ha hc1 hq1 hodd hle hey
          rcases hsg with hsg | hsg
          · have hq0b : q0 = 43 := by rw [hq0] at hsg; exact Option.some.inj hsg
            subst hq0b
            have hc0b : wr.cell? ⟨b, off + e, none⟩ = some (.int .u8 43) := hc0
            clear hc0 hq0 hsg
            go_wp2
            exact ⟨⟨e + 2, by first | rfl | go_num, by have := HOd.out; have := HEy.out; omega, by have := HOd.out; omega, HBr⟩, by simp [intOf]; have := HEy.out; omega⟩
          · have hq0b : q0 = 42 := by rw [hq0] at hsg; exact Option.some.inj hsg
            subst hq0b
            have hc0b : wr.cell? ⟨b, off + e, none⟩ = some (.int .u8 42) := hc0
            clear hc0 hq0 hsg
            go_wp2
            exact ⟨⟨e + 2, by first | rfl | go_num, by have := HOd.out; have := HEy.out; omega, by have := HOd.out; omega, HBr⟩, by simp [intOf]; have := HEy.out; omega⟩
        · obtain rfl : e = ye := by omega
          have hend := HY2.out
          rw [← HYe.out] at hend
          clear hey hle hodd
          by_cases c1 : e1 < wl
          · have c2 : (e1 : Int) < wl := by omega
            have c3 : (e : Int) < wl := by have := HE1.out; omega
            have c4 : e < wl := by omega
            obtain ⟨q0, hq0, -, hc0⟩ := HByte.out wr HBr.out e c4
            obtain ⟨q1, hq1, -, hc1⟩ := HByte.out wr HBr.out e1 c1
            have hq1' := hq1
            rw [HE1.out] at hq1'
            by_cases d1 : q0 = 43
            · subst d1
              have hc0b : wr.cell? ⟨b, off + e, none⟩ = some (.int .u8 43) := hc0
              have d2 : q1 ≠ 97 := fun h => hend ⟨.inl hq0, by rw [hq1', h]⟩
              have d2a : ((q1.toNat : Int) == 97) = false := by
                rw [beq_eq_false_iff_ne]
                intro h
                exact d2 (UInt8.toNat_inj.1 (by rw [show (97 : UInt8).toNat = 97 from rfl]; exact_mod_cast h))
              have d2b : ¬ ((q1.toNat : Int) = 97) := by simpa using d2a
              clear hc0 hq0 hq1 hq1' hend d2
              go_wp2_with fail
              go_meet
              exact ⟨rfl, HBr⟩
            · by_cases d2 : q0 = 42
              · subst d2
                have hc0b : wr.cell? ⟨b, off + e, none⟩ = some (.int .u8 42) := hc0
                have d3 : q1 ≠ 97 := fun h => hend ⟨.inr hq0, by rw [hq1', h]⟩
                have d3a : ((q1.toNat : Int) == 97) = false := by
                  rw [beq_eq_false_iff_ne]
                  intro h
                  exact d3 (UInt8.toNat_inj.1 (by rw [show (97 : UInt8).toNat = 97 from rfl]; exact_mod_cast h))
                have d3b : ¬ ((q1.toNat : Int) = 97) := by simpa using d3a
                clear hc0 hq0 hq1 hq1' hend d3 d1
                go_wp2_with fail
                go_meet
                exact ⟨rfl, HBr⟩
              · skip
                have d1a : ((q0.toNat : Int) == 43) = false := by
                  rw [beq_eq_false_iff_ne]
                  intro h
                  exact d1 (UInt8.toNat_inj.1 (by rw [show (43 : UInt8).toNat = 43 from rfl]; exact_mod_cast h))
                have d1b : ¬ ((q0.toNat : Int) = 43) := by simpa using d1a
                have d2a : ((q0.toNat : Int) == 42) = false := by
                  rw [beq_eq_false_iff_ne]
                  intro h
                  exact d2 (UInt8.toNat_inj.1 (by rw [show (42 : UInt8).toNat = 42 from rfl]; exact_mod_cast h))
                have d2b : ¬ ((q0.toNat : Int) = 42) := by simpa using d2a
                clear hq0 hq1 hq1' hend d1 d2
                go_wp2_with fail
                go_meet
                exact ⟨rfl, HBr⟩
          · have c2 : ¬ (e1 : Int) < wl := by omega
            go_wp2_with fail
            go_meet
            exact ⟨rfl, HBr⟩
    case rest =>
      obtain ⟨rfl, HBc⟩ := hcut
      have HFc := Lib.hid ((HBc.out.block _ (lt_of_block HF.out)).trans HF.out)
      have HTc := Lib.hid (HTR.out.later HBc.out)
      have hpos : decide ((ye : Int) > 0) = true := decide_eq_true (by have := HYl.out; omega)
      have hpos2 : decide (0 < ye) = true := decide_eq_true HYl.out.1
      have hpos3 : decide ((0 : Int) < ye) = true := hpos
      obtain ⟨x0, x1, x2, x3⟩ := four_box HFc.out
      have BW := Lib.hid (BU.out.trans (HBc.out.mono BU.out.size))
      go_wp2
      clear x0 x1 x2 x3 hpos hpos2 hpos3
      go_loopw [7, 8, 9, 10, 11, 12, 13] (fun a _ _ _ _ _ _ vq => ∃ i : Nat, a = .int .i64 i ∧ i ≤ L ∧ Hid (Below wc.heap.size wc vq)) (fun a _ _ _ _ _ _ _ => L - (intOf a).toNat)
      case atStart => exact ⟨0, rfl, Nat.zero_le _, Lib.hid (by first | exact Below.refl _ _ | exact below_draws (Below.refl _ _) _)⟩
      case round =>
        obtain ⟨i, rfl, hi, HBr⟩ := hrel
        have K4 := Lib.hid ((HBr.out.block _ (lt_of_block HFc.out)).trans HFc.out)
        obtain ⟨x0, x1, x2, x3⟩ := four_box K4.out
        have hLb : L ≤ 100 := by have h1 := HLn.out; rw [Xp.tw_len, Xp.sz_len] at h1; have := HYe.out; have := HYl.out; have := HW6.out; have := HWl.out; omega
        by_cases hil : i < L
        · have hil2 : (i : Int) < L := by omega
          have hil3 : i < (y.tw 0 0).length := by rw [← HLn.out]; exact hil
          obtain ⟨⟨q, e, n1, n2, n3, n4, n5, n6, n7, n8, n9, hnode⟩, hto⟩ := HNode.out i hil3
          obtain ⟨-, -, -, -, hc⟩ := TwAt.cells (HTc.out.later HBr.out).at'
          obtain ⟨tb, tf, hta, -, c0, c1, c2, c3, c4⟩ := hc i hil3
          rw [← atT_get _ hil3, n6] at c2
          rw [← atT_get _ hil3, n7] at c3
          rw [n7, ← HYe.out] at hto
          have HHi := Lib.hid (And.intro hi (And.intro hil (And.intro n8 (And.intro n9 hto))))
          have HNd := Lib.hid hnode
          subst hta
          clear hc hil3 n1 n2 n3 n4 n5 n6 n7 n9 c0 c1 c4 hnode hi
          go_upto_region 17 with (fail)
          refine gen_world (S := fun u => Below wr.heap.size wr u ∧ u.heap[wr.heap.size]? = some (.cells #[.int .i64 q, .int .i64 e] 48 (0, 0))) (one_new wr _) (fun v1 hu => ?_)
          obtain ⟨hb, k1⟩ := hu
          have HB1 := Lib.hid (HBr.out.trans (hb.mono HBr.out.size))
          obtain ⟨X, hX⟩ : ∃ X, X = wr.heap.size := ⟨_, rfl⟩
          rw [← hX] at k1 ⊢
          have HK1 := Lib.hid k1
          obtain ⟨s0, s1⟩ := two_cells k1
          have f1 : ¬ (q : Int) < 0 := by omega
          have f2 : ¬ (e : Int) > (ye : Int) := by omega
          have f3 : ¬ (e : Int) ≤ (q : Int) := by omega
          clear hb k1 hX c2 c3 x0 x1 x2 x3 hto
          have HL1 := Lib.hid (last_any 43 _ W q e v1 (HWu.out v1 (HBc.out.trans (HB1.out.mono HBc.out.size))) (by have := HHi.out; omega) HHi.out.2.2.2.1 HW6.out)
          go_wp2_with fail
          refine HL1.out.mono ?_
          rintro en v2 ⟨rfl, hb⟩
          have HB2 := Lib.hid (HB1.out.trans (hb.mono HB1.out.size))
          have HK2 := Lib.hid ((hb.block _ (lt_of_block HK1.out)).trans HK1.out)
          clear hb s0 s1 f1 f2 f3 n8
          obtain ⟨s0, s1⟩ := two_cells HK2.out
          have K5 := Lib.hid ((HB2.out.block _ (lt_of_block HFc.out)).trans HFc.out)
          obtain ⟨x0, x1, x2, x3⟩ := four_box K5.out
          rcases HNd.out with ⟨l1, l2, l3, l4⟩ | ⟨m, n2, l1, l3⟩ | ⟨m, n2, l1, l2, l3⟩
          · rw [l1]
            have L2 := Lib.hid l2
            have L3 := Lib.hid l3
            have L4 := Lib.hid l4
            clear l1 l2 l3 l4
            have HL2 := Lib.hid (last_any 42 _ W q e v2 (HWu.out v2 (HBc.out.trans (HB2.out.mono HBc.out.size))) (by have := HHi.out; omega) HHi.out.2.2.2.1 HW6.out)
            go_wp2_with fail
            refine HL2.out.mono ?_
            rintro en v3 ⟨rfl, hb⟩
            rw [L2.out]
            have HB3 := Lib.hid (HB2.out.trans (hb.mono HB2.out.size))
            have HK3 := Lib.hid ((hb.block _ (lt_of_block HK2.out)).trans HK2.out)
            clear hb s0 s1 x0 x1 x2 x3
            obtain ⟨s0, s1⟩ := two_cells HK3.out
            have K6 := Lib.hid ((HB3.out.block _ (lt_of_block HFc.out)).trans HFc.out)
            obtain ⟨x0, x1, x2, x3⟩ := four_box K6.out
            have HK := Lib.hid (tKids_any (.slice (some ⟨tb, tf, none⟩) L tc) (i : Int) v3 (HTc.out.later HB3.out))
            go_wp2_with fail
            refine HK.out.mono ?_
            rintro en v4 ⟨vk, rfl, hok, hb⟩
            rw [L3.out] at hok
            obtain ⟨ka, kc, hvk⟩ := own_val hok
            have hvk2 : vk = .slice ka 0 kc := hvk
            subst hvk2
            have HB4 := Lib.hid (HB3.out.trans (hb.mono HB3.out.size))
            have HK4 := Lib.hid ((hb.block _ (lt_of_block HK3.out)).trans HK3.out)
            have hs3 : IntKind.i64.wrap ((q : Int) + 1) = (e : Int) := by rw [IntWalk.i64_in _ (by have := HHi.out; have := HW6.out; omega)]; have := L4.out; omega
            clear hb hok hvk s0 s1 x0 x1 x2 x3
            obtain ⟨s0, s1⟩ := two_cells HK4.out
            go_wp2
            exact ⟨⟨i + 1, by go_num, by have := HHi.out; omega, Lib.hid (by first | exact HB4.out | exact below_draws HB4.out _)⟩, by simp [intOf]; have := HHi.out; omega⟩
          · rw [l1]
            have L3 := Lib.hid l3
            clear l1 l3
            have hmn : ¬ (m : Int) < 0 := by omega
            have HK := Lib.hid (tKids_any (.slice (some ⟨tb, tf, none⟩) L tc) (i : Int) v2 (HTc.out.later HB2.out))
            go_wp2_with fail
            refine HK.out.mono ?_
            rintro en v4 ⟨vk, rfl, hok, hb⟩
            rw [L3.out.kids] at hok
            obtain ⟨ka, kc, hvk⟩ := own_val hok
            have hvk2 : vk = .slice ka 2 kc := hvk
            subst hvk2
            have HB4 := Lib.hid (HB2.out.trans (hb.mono HB2.out.size))
            have HK4 := Lib.hid ((hb.block _ (lt_of_block HK2.out)).trans HK2.out)
            have K7 := Lib.hid ((HB4.out.block _ (lt_of_block HFc.out)).trans HFc.out)
            clear hb hvk s0 s1 x0 x1 x2 x3
            obtain ⟨gk, hgk⟩ : ∃ gk : Nat, ka = some ⟨gk, 0, none⟩ := by
              rcases hok.2 with ⟨e, h0⟩ | ⟨g, cap, cur, e, -⟩
              · simp at e
              · simp only [Value.slice.injEq] at e
                exact ⟨g, e.1⟩
            subst hgk
            have w0 : v4.cell? ⟨gk, 0, none⟩ = some (.int .i64 ((i + 1 : Nat) : Int)) := (own_get2 hok (j := 0) rfl).1
            have w1 : v4.cell? ⟨gk, 1, none⟩ = some (.int .i64 (n2 : Int)) := (own_get2 hok (j := 1) rfl).1
            have hp := L3.out
            have HP := Lib.hid hp
            obtain ⟨-, p1, p2, ⟨a1, a2, a3⟩, ⟨b1, b2, b3⟩, hmid⟩ := hp
            have HMid := Lib.hid hmid
            obtain ⟨-, -, -, -, hc⟩ := TwAt.cells (HTc.out.later HB4.out).at'
            obtain ⟨tb', tf', hta, -, c0, c1, c2, c3, c4⟩ := hc (i + 1) p1
            simp only [Option.some.injEq, Addr.mk.injEq, and_true] at hta
            obtain ⟨rfl, rfl⟩ := hta
            obtain ⟨tb', tf', hta, -, d0, d1, d2, d3, d4⟩ := hc n2 p2
            simp only [Option.some.injEq, Addr.mk.injEq, and_true] at hta
            obtain ⟨rfl, rfl⟩ := hta
            rw [← atT_get _ p1] at c0 c1 c2 c3 c4
            rw [← atT_get _ p2] at d0 d1 d2 d3 d4
            rw [a1] at c1
            rw [a2] at c2
            rw [a3] at c3
            rw [b1] at d1
            rw [b2] at d2
            rw [b3] at d3
            generalize (atT (y.tw 0 0) (i + 1)).rule = ra1 at c0
            generalize (atT (y.tw 0 0) (i + 1)).kids = rk1 at c4
            generalize (atT (y.tw 0 0) n2).rule = ra2 at d0
            generalize (atT (y.tw 0 0) n2).kids = rk2 at d4
            have hj1 : i + 1 < L := by rw [HLn.out]; exact p1
            have hj2 : n2 < L := by rw [HLn.out]; exact p2
            obtain ⟨j1, hj⟩ : ∃ j1, j1 = i + 1 := ⟨_, rfl⟩
            rw [← hj] at w0 c0 c1 c2 c3 c4 hj1
            have hj1i : (j1 : Int) < L := by omega
            have hj2i : (n2 : Int) < L := by omega
            clear hc hok a1 a2 a3 b1 b2 b3 p1 p2 hj hmid
            obtain ⟨s0, s1⟩ := two_cells HK4.out
            obtain ⟨x0, x1, x2, x3⟩ := four_box K7.out
            go_upto_region 30 with (fail)
            clear s0 s1
            have W0 := Lib.hid w0
            have W1 := Lib.hid w1
            have CC := Lib.hid (And.intro c0 (And.intro c1 (And.intro c2 (And.intro c3 c4))))
            have DD := Lib.hid (And.intro d0 (And.intro d1 (And.intro d2 (And.intro d3 d4))))
            have hJ := Lib.hid (And.intro hj1 (And.intro hj2 (And.intro hj1i hj2i)))
            clear w0 w1 c0 c1 c2 c3 c4 d0 d1 d2 d3 d4 x0 x1 x2 x3
            go_cut [12, 13] (fun a bb wx => ∃ A B : Nat, a = .pointer (some ⟨A, 0, none⟩) ∧ bb = .pointer (some ⟨B, 0, none⟩) ∧ Hid (Below v4.heap.size v4 wx) ∧ Hid (wx.heap[A]? = some (.cells #[.int .i64 ra1, .int .i64 (1 : Nat), .int .i64 q, .int .i64 m, .int .i64 rk1] 50 (0, 0))) ∧ Hid (wx.heap[B]? = some (.cells #[.int .i64 ra2, .int .i64 ((1 + 1 : Nat) : Int), .int .i64 ((m + 1 : Nat) : Int), .int .i64 e, .int .i64 rk2] 50 (0, 0))))
            case first =>
              refine wp_region_held_drew (S := fun u => Below v4.heap.size v4 u) (by kernel_rfl) ((Below.refl v4.heap.size v4).drew) (fun hS => ?_)
              obtain ⟨zd, hzd⟩ : ∃ zd, zd = v4.drew := ⟨_, rfl⟩
              rw [← hzd] at hS ⊢
              clear hzd
              refine wpAnyH_take (i := 0) (oi := ⟨_, _, _, _, _, _⟩) (v := ?v1) rfl (by kernel_rfl) (by kernel_rfl) (by kernel_rfl) (fun _ _ _ h => h) ?y1 hS ?_
              case y1 => first | (refine Or.inr ⟨by rfl, ?_⟩; with_reducible rfl) | (refine Or.inl ⟨by rfl, ?_⟩; intro wS hSw; obtain ⟨x0, x1, x2, x3⟩ := four_box ((hSw.block _ (lt_of_block K7.out)).trans K7.out); have w0 := cell_later hSw W0.out; have w1 := cell_later hSw W1.out; have c0 := cell_later hSw CC.out.1; have c1 := cell_later hSw CC.out.2.1; have c2 := cell_later hSw CC.out.2.2.1; have c3 := cell_later hSw CC.out.2.2.2.1; have c4 := cell_later hSw CC.out.2.2.2.2; have d0 := cell_later hSw DD.out.1; have d1 := cell_later hSw DD.out.2.1; have d2 := cell_later hSw DD.out.2.2.1; have d3 := cell_later hSw DD.out.2.2.2.1; have d4 := cell_later hSw DD.out.2.2.2.2; obtain ⟨hj1, hj2, hj1i, hj2i⟩ := hJ.out; go_simp; try with_reducible rfl)
              simp only [Act.put, List.setIfInBounds_toArray, List.set_cons_zero, List.set_cons_succ]
              refine wpAnyH_take (i := 1) (oi := ⟨_, _, _, _, _, _⟩) (v := ?v2) rfl (by kernel_rfl) (by kernel_rfl) (by kernel_rfl) (fun _ _ _ h => h) ?y2 hS ?_
              case y2 => first | (refine Or.inr ⟨by rfl, ?_⟩; with_reducible rfl) | (refine Or.inl ⟨by rfl, ?_⟩; intro wS hSw; obtain ⟨x0, x1, x2, x3⟩ := four_box ((hSw.block _ (lt_of_block K7.out)).trans K7.out); have w0 := cell_later hSw W0.out; have w1 := cell_later hSw W1.out; have c0 := cell_later hSw CC.out.1; have c1 := cell_later hSw CC.out.2.1; have c2 := cell_later hSw CC.out.2.2.1; have c3 := cell_later hSw CC.out.2.2.2.1; have c4 := cell_later hSw CC.out.2.2.2.2; have d0 := cell_later hSw DD.out.1; have d1 := cell_later hSw DD.out.2.1; have d2 := cell_later hSw DD.out.2.2.1; have d3 := cell_later hSw DD.out.2.2.2.1; have d4 := cell_later hSw DD.out.2.2.2.2; obtain ⟨hj1, hj2, hj1i, hj2i⟩ := hJ.out; go_simp; try with_reducible rfl)
              simp only [Act.put, List.setIfInBounds_toArray, List.set_cons_zero, List.set_cons_succ]
              refine wpAnyH_take (i := 2) (oi := ⟨_, _, _, _, _, _⟩) (v := ?v3) rfl (by kernel_rfl) (by kernel_rfl) (by kernel_rfl) (fun _ _ _ h => h) ?y3 hS ?_
              case y3 => first | (refine Or.inr ⟨by rfl, ?_⟩; with_reducible rfl) | (refine Or.inl ⟨by rfl, ?_⟩; intro wS hSw; obtain ⟨x0, x1, x2, x3⟩ := four_box ((hSw.block _ (lt_of_block K7.out)).trans K7.out); have w0 := cell_later hSw W0.out; have w1 := cell_later hSw W1.out; have c0 := cell_later hSw CC.out.1; have c1 := cell_later hSw CC.out.2.1; have c2 := cell_later hSw CC.out.2.2.1; have c3 := cell_later hSw CC.out.2.2.2.1; have c4 := cell_later hSw CC.out.2.2.2.2; have d0 := cell_later hSw DD.out.1; have d1 := cell_later hSw DD.out.2.1; have d2 := cell_later hSw DD.out.2.2.1; have d3 := cell_later hSw DD.out.2.2.2.1; have d4 := cell_later hSw DD.out.2.2.2.2; obtain ⟨hj1, hj2, hj1i, hj2i⟩ := hJ.out; go_simp; try with_reducible rfl)
              simp only [Act.put, List.setIfInBounds_toArray, List.set_cons_zero, List.set_cons_succ]
              refine wpAnyH_take (i := 3) (oi := ⟨_, _, _, _, _, _⟩) (v := ?v4) rfl (by kernel_rfl) (by kernel_rfl) (by kernel_rfl) (fun _ _ _ h => h) ?y4 hS ?_
              case y4 => first | (refine Or.inr ⟨by rfl, ?_⟩; with_reducible rfl) | (refine Or.inl ⟨by rfl, ?_⟩; intro wS hSw; obtain ⟨x0, x1, x2, x3⟩ := four_box ((hSw.block _ (lt_of_block K7.out)).trans K7.out); have w0 := cell_later hSw W0.out; have w1 := cell_later hSw W1.out; have c0 := cell_later hSw CC.out.1; have c1 := cell_later hSw CC.out.2.1; have c2 := cell_later hSw CC.out.2.2.1; have c3 := cell_later hSw CC.out.2.2.2.1; have c4 := cell_later hSw CC.out.2.2.2.2; have d0 := cell_later hSw DD.out.1; have d1 := cell_later hSw DD.out.2.1; have d2 := cell_later hSw DD.out.2.2.1; have d3 := cell_later hSw DD.out.2.2.2.1; have d4 := cell_later hSw DD.out.2.2.2.2; obtain ⟨hj1, hj2, hj1i, hj2i⟩ := hJ.out; go_simp; try with_reducible rfl)
              simp only [Act.put, List.setIfInBounds_toArray, List.set_cons_zero, List.set_cons_succ]
              refine wpAnyH_take (i := 4) (oi := ⟨_, _, _, _, _, _⟩) (v := ?v5) rfl (by kernel_rfl) (by kernel_rfl) (by kernel_rfl) (fun _ _ _ h => h) ?y5 hS ?_
              case y5 => first | (refine Or.inr ⟨by rfl, ?_⟩; with_reducible rfl) | (refine Or.inl ⟨by rfl, ?_⟩; intro wS hSw; obtain ⟨x0, x1, x2, x3⟩ := four_box ((hSw.block _ (lt_of_block K7.out)).trans K7.out); have w0 := cell_later hSw W0.out; have w1 := cell_later hSw W1.out; have c0 := cell_later hSw CC.out.1; have c1 := cell_later hSw CC.out.2.1; have c2 := cell_later hSw CC.out.2.2.1; have c3 := cell_later hSw CC.out.2.2.2.1; have c4 := cell_later hSw CC.out.2.2.2.2; have d0 := cell_later hSw DD.out.1; have d1 := cell_later hSw DD.out.2.1; have d2 := cell_later hSw DD.out.2.2.1; have d3 := cell_later hSw DD.out.2.2.2.1; have d4 := cell_later hSw DD.out.2.2.2.2; obtain ⟨hj1, hj2, hj1i, hj2i⟩ := hJ.out; go_simp; try with_reducible rfl)
              simp only [Act.put, List.setIfInBounds_toArray, List.set_cons_zero, List.set_cons_succ]
              refine wpAnyH_take (i := 5) (oi := ⟨_, _, _, _, _, _⟩) (v := ?v6) rfl (by kernel_rfl) (by kernel_rfl) (by kernel_rfl) (fun _ _ _ h => h) ?y6 hS ?_
              case y6 => first | (refine Or.inr ⟨by rfl, ?_⟩; with_reducible rfl) | (refine Or.inl ⟨by rfl, ?_⟩; intro wS hSw; obtain ⟨x0, x1, x2, x3⟩ := four_box ((hSw.block _ (lt_of_block K7.out)).trans K7.out); have w0 := cell_later hSw W0.out; have w1 := cell_later hSw W1.out; have c0 := cell_later hSw CC.out.1; have c1 := cell_later hSw CC.out.2.1; have c2 := cell_later hSw CC.out.2.2.1; have c3 := cell_later hSw CC.out.2.2.2.1; have c4 := cell_later hSw CC.out.2.2.2.2; have d0 := cell_later hSw DD.out.1; have d1 := cell_later hSw DD.out.2.1; have d2 := cell_later hSw DD.out.2.2.1; have d3 := cell_later hSw DD.out.2.2.2.1; have d4 := cell_later hSw DD.out.2.2.2.2; obtain ⟨hj1, hj2, hj1i, hj2i⟩ := hJ.out; go_simp; try with_reducible rfl)
              simp only [Act.put, List.setIfInBounds_toArray, List.set_cons_zero, List.set_cons_succ]
              refine wpAnyH_take (i := 6) (oi := ⟨_, _, _, _, _, _⟩) (v := ?v7) rfl (by kernel_rfl) (by kernel_rfl) (by kernel_rfl) (fun _ _ _ h => h) ?y7 hS ?_
              case y7 => first | (refine Or.inr ⟨by rfl, ?_⟩; with_reducible rfl) | (refine Or.inl ⟨by rfl, ?_⟩; intro wS hSw; obtain ⟨x0, x1, x2, x3⟩ := four_box ((hSw.block _ (lt_of_block K7.out)).trans K7.out); have w0 := cell_later hSw W0.out; have w1 := cell_later hSw W1.out; have c0 := cell_later hSw CC.out.1; have c1 := cell_later hSw CC.out.2.1; have c2 := cell_later hSw CC.out.2.2.1; have c3 := cell_later hSw CC.out.2.2.2.1; have c4 := cell_later hSw CC.out.2.2.2.2; have d0 := cell_later hSw DD.out.1; have d1 := cell_later hSw DD.out.2.1; have d2 := cell_later hSw DD.out.2.2.1; have d3 := cell_later hSw DD.out.2.2.2.1; have d4 := cell_later hSw DD.out.2.2.2.2; obtain ⟨hj1, hj2, hj1i, hj2i⟩ := hJ.out; go_simp; try with_reducible rfl)
              simp only [Act.put, List.setIfInBounds_toArray, List.set_cons_zero, List.set_cons_succ]
              refine wpAnyH_take (i := 7) (oi := ⟨_, _, _, _, _, _⟩) (v := ?v8) rfl (by kernel_rfl) (by kernel_rfl) (by kernel_rfl) (fun _ _ _ h => h) ?y8 hS ?_
              case y8 => first | (refine Or.inr ⟨by rfl, ?_⟩; with_reducible rfl) | (refine Or.inl ⟨by rfl, ?_⟩; intro wS hSw; obtain ⟨x0, x1, x2, x3⟩ := four_box ((hSw.block _ (lt_of_block K7.out)).trans K7.out); have w0 := cell_later hSw W0.out; have w1 := cell_later hSw W1.out; have c0 := cell_later hSw CC.out.1; have c1 := cell_later hSw CC.out.2.1; have c2 := cell_later hSw CC.out.2.2.1; have c3 := cell_later hSw CC.out.2.2.2.1; have c4 := cell_later hSw CC.out.2.2.2.2; have d0 := cell_later hSw DD.out.1; have d1 := cell_later hSw DD.out.2.1; have d2 := cell_later hSw DD.out.2.2.1; have d3 := cell_later hSw DD.out.2.2.2.1; have d4 := cell_later hSw DD.out.2.2.2.2; obtain ⟨hj1, hj2, hj1i, hj2i⟩ := hJ.out; go_simp; try with_reducible rfl)
              simp only [Act.put, List.setIfInBounds_toArray, List.set_cons_zero, List.set_cons_succ]
              refine wpAnyH_take (i := 8) (oi := ⟨_, _, _, _, _, _⟩) (v := ?v9) rfl (by kernel_rfl) (by kernel_rfl) (by kernel_rfl) (fun _ _ _ h => h) ?y9 hS ?_
              case y9 => first | (refine Or.inr ⟨by rfl, ?_⟩; with_reducible rfl) | (refine Or.inl ⟨by rfl, ?_⟩; intro wS hSw; obtain ⟨x0, x1, x2, x3⟩ := four_box ((hSw.block _ (lt_of_block K7.out)).trans K7.out); have w0 := cell_later hSw W0.out; have w1 := cell_later hSw W1.out; have c0 := cell_later hSw CC.out.1; have c1 := cell_later hSw CC.out.2.1; have c2 := cell_later hSw CC.out.2.2.1; have c3 := cell_later hSw CC.out.2.2.2.1; have c4 := cell_later hSw CC.out.2.2.2.2; have d0 := cell_later hSw DD.out.1; have d1 := cell_later hSw DD.out.2.1; have d2 := cell_later hSw DD.out.2.2.1; have d3 := cell_later hSw DD.out.2.2.2.1; have d4 := cell_later hSw DD.out.2.2.2.2; obtain ⟨hj1, hj2, hj1i, hj2i⟩ := hJ.out; go_simp; try with_reducible rfl)
              simp only [Act.put, List.setIfInBounds_toArray, List.set_cons_zero, List.set_cons_succ]
              refine wpAnyH_take (i := 9) (oi := ⟨_, _, _, _, _, _⟩) (v := ?v10) rfl (by kernel_rfl) (by kernel_rfl) (by kernel_rfl) (fun _ _ _ h => h) ?y10 hS ?_
              case y10 => first | (refine Or.inr ⟨by rfl, ?_⟩; with_reducible rfl) | (refine Or.inl ⟨by rfl, ?_⟩; intro wS hSw; obtain ⟨x0, x1, x2, x3⟩ := four_box ((hSw.block _ (lt_of_block K7.out)).trans K7.out); have w0 := cell_later hSw W0.out; have w1 := cell_later hSw W1.out; have c0 := cell_later hSw CC.out.1; have c1 := cell_later hSw CC.out.2.1; have c2 := cell_later hSw CC.out.2.2.1; have c3 := cell_later hSw CC.out.2.2.2.1; have c4 := cell_later hSw CC.out.2.2.2.2; have d0 := cell_later hSw DD.out.1; have d1 := cell_later hSw DD.out.2.1; have d2 := cell_later hSw DD.out.2.2.1; have d3 := cell_later hSw DD.out.2.2.2.1; have d4 := cell_later hSw DD.out.2.2.2.2; obtain ⟨hj1, hj2, hj1i, hj2i⟩ := hJ.out; go_simp; try with_reducible rfl)
              simp only [Act.put, List.setIfInBounds_toArray, List.set_cons_zero, List.set_cons_succ]
              refine wpAnyH_take (i := 10) (oi := ⟨_, _, _, _, _, _⟩) (v := ?v11) rfl (by kernel_rfl) (by kernel_rfl) (by kernel_rfl) (fun _ _ _ h => h) ?y11 hS ?_
              case y11 => first | (refine Or.inr ⟨by rfl, ?_⟩; with_reducible rfl) | (refine Or.inl ⟨by rfl, ?_⟩; intro wS hSw; obtain ⟨x0, x1, x2, x3⟩ := four_box ((hSw.block _ (lt_of_block K7.out)).trans K7.out); have w0 := cell_later hSw W0.out; have w1 := cell_later hSw W1.out; have c0 := cell_later hSw CC.out.1; have c1 := cell_later hSw CC.out.2.1; have c2 := cell_later hSw CC.out.2.2.1; have c3 := cell_later hSw CC.out.2.2.2.1; have c4 := cell_later hSw CC.out.2.2.2.2; have d0 := cell_later hSw DD.out.1; have d1 := cell_later hSw DD.out.2.1; have d2 := cell_later hSw DD.out.2.2.1; have d3 := cell_later hSw DD.out.2.2.2.1; have d4 := cell_later hSw DD.out.2.2.2.2; obtain ⟨hj1, hj2, hj1i, hj2i⟩ := hJ.out; go_simp; try with_reducible rfl)
              simp only [Act.put, List.setIfInBounds_toArray, List.set_cons_zero, List.set_cons_succ]
              refine wpAnyH_take (i := 11) (oi := ⟨_, _, _, _, _, _⟩) (v := ?v12) rfl (by kernel_rfl) (by kernel_rfl) (by kernel_rfl) (fun _ _ _ h => h) ?y12 hS ?_
              case y12 => first | (refine Or.inr ⟨by rfl, ?_⟩; with_reducible rfl) | (refine Or.inl ⟨by rfl, ?_⟩; intro wS hSw; obtain ⟨x0, x1, x2, x3⟩ := four_box ((hSw.block _ (lt_of_block K7.out)).trans K7.out); have w0 := cell_later hSw W0.out; have w1 := cell_later hSw W1.out; have c0 := cell_later hSw CC.out.1; have c1 := cell_later hSw CC.out.2.1; have c2 := cell_later hSw CC.out.2.2.1; have c3 := cell_later hSw CC.out.2.2.2.1; have c4 := cell_later hSw CC.out.2.2.2.2; have d0 := cell_later hSw DD.out.1; have d1 := cell_later hSw DD.out.2.1; have d2 := cell_later hSw DD.out.2.2.1; have d3 := cell_later hSw DD.out.2.2.2.1; have d4 := cell_later hSw DD.out.2.2.2.2; obtain ⟨hj1, hj2, hj1i, hj2i⟩ := hJ.out; go_simp; try with_reducible rfl)
              simp only [Act.put, List.setIfInBounds_toArray, List.set_cons_zero, List.set_cons_succ]
              refine wpAnyH_take (i := 12) (oi := ⟨_, _, _, _, _, _⟩) (v := ?v13) rfl (by kernel_rfl) (by kernel_rfl) (by kernel_rfl) (fun _ _ _ h => h) ?y13 hS ?_
              case y13 => first | (refine Or.inr ⟨by rfl, ?_⟩; with_reducible rfl) | (refine Or.inl ⟨by rfl, ?_⟩; intro wS hSw; obtain ⟨x0, x1, x2, x3⟩ := four_box ((hSw.block _ (lt_of_block K7.out)).trans K7.out); have w0 := cell_later hSw W0.out; have w1 := cell_later hSw W1.out; have c0 := cell_later hSw CC.out.1; have c1 := cell_later hSw CC.out.2.1; have c2 := cell_later hSw CC.out.2.2.1; have c3 := cell_later hSw CC.out.2.2.2.1; have c4 := cell_later hSw CC.out.2.2.2.2; have d0 := cell_later hSw DD.out.1; have d1 := cell_later hSw DD.out.2.1; have d2 := cell_later hSw DD.out.2.2.1; have d3 := cell_later hSw DD.out.2.2.2.1; have d4 := cell_later hSw DD.out.2.2.2.2; obtain ⟨hj1, hj2, hj1i, hj2i⟩ := hJ.out; go_simp; try with_reducible rfl)
              simp only [Act.put, List.setIfInBounds_toArray, List.set_cons_zero, List.set_cons_succ]
              refine wpAnyH_take (i := 13) (oi := ⟨_, _, _, _, _, _⟩) (v := ?v14) rfl (by kernel_rfl) (by kernel_rfl) (by kernel_rfl) (fun _ _ _ h => h) ?y14 hS ?_
              case y14 => first | (refine Or.inr ⟨by rfl, ?_⟩; with_reducible rfl) | (refine Or.inl ⟨by rfl, ?_⟩; intro wS hSw; obtain ⟨x0, x1, x2, x3⟩ := four_box ((hSw.block _ (lt_of_block K7.out)).trans K7.out); have w0 := cell_later hSw W0.out; have w1 := cell_later hSw W1.out; have c0 := cell_later hSw CC.out.1; have c1 := cell_later hSw CC.out.2.1; have c2 := cell_later hSw CC.out.2.2.1; have c3 := cell_later hSw CC.out.2.2.2.1; have c4 := cell_later hSw CC.out.2.2.2.2; have d0 := cell_later hSw DD.out.1; have d1 := cell_later hSw DD.out.2.1; have d2 := cell_later hSw DD.out.2.2.1; have d3 := cell_later hSw DD.out.2.2.2.1; have d4 := cell_later hSw DD.out.2.2.2.2; obtain ⟨hj1, hj2, hj1i, hj2i⟩ := hJ.out; go_simp; try with_reducible rfl)
              simp only [Act.put, List.setIfInBounds_toArray, List.set_cons_zero, List.set_cons_succ]
              refine wpAnyH_ready (rs := [14, 15]) (by kernel_rfl) (by simp) ?_
              refine AllReadyH.cons (o := ⟨_, _, _, _, _, _⟩) rfl (fun K hK => ?_) (AllReadyH.cons (o := ⟨_, _, _, _, _, _⟩) rfl (fun K hK => ?_) AllReadyH.nil)
              · go_simp
                refine hK.out _ _ (hS.trans ((one_new _ (.cells #[.int .i64 0, .int .i64 0, .int .i64 0, .int .i64 0, .int .i64 0] 50 (0, 0))).1.mono hS.size)) (fun hS2 => ?_)
                clear hK K
                try simp only [Act.put, List.setIfInBounds_toArray, List.set_cons_zero, List.set_cons_succ]
                refine gen_anyH (S2 := fun u => Below v4.heap.size v4 u ∧ (∃ X, X = _ ∧ u.heap[X]? = some (.cells #[.int .i64 0, .int .i64 0, .int .i64 0, .int .i64 0, .int .i64 0] 50 (0, 0)) ∧ v4.heap.size ≤ X)) ⟨hS2, ⟨_, rfl, (one_new _ (.cells #[.int .i64 0, .int .i64 0, .int .i64 0, .int .i64 0, .int .i64 0] 50 (0, 0))).2, hS.size⟩⟩ (fun uA hu => ?_)
                clear hS hS2
                obtain ⟨hS, ⟨A, heA, hA, hgA⟩⟩ := hu
                rw [← heA]
                clear heA
                refine wpAnyH_ready (rs := [15]) (by kernel_rfl) (by simp) ?_
                refine AllReadyH.cons (o := ⟨_, _, _, _, _, _⟩) rfl (fun K hK => ?_) AllReadyH.nil
                go_simp
                refine hK.out _ _ (hS.trans ((one_new _ (.cells #[.int .i64 0, .int .i64 0, .int .i64 0, .int .i64 0, .int .i64 0] 50 (0, 0))).1.mono hS.size)) (fun hS2 => ?_)
                clear hK K
                try simp only [Act.put, List.setIfInBounds_toArray, List.set_cons_zero, List.set_cons_succ]
                refine gen_anyH (S2 := fun u => Below v4.heap.size v4 u ∧ (∃ X, X = _ ∧ u.heap[X]? = some (.cells #[.int .i64 0, .int .i64 0, .int .i64 0, .int .i64 0, .int .i64 0] 50 (0, 0)) ∧ v4.heap.size ≤ X ∧ A ≠ X) ∧ u.heap[A]? = some (.cells #[.int .i64 0, .int .i64 0, .int .i64 0, .int .i64 0, .int .i64 0] 50 (0, 0))) ⟨hS2, ⟨_, rfl, (one_new _ (.cells #[.int .i64 0, .int .i64 0, .int .i64 0, .int .i64 0, .int .i64 0] 50 (0, 0))).2, hS.size, (by have := lt_of_block hA; omega)⟩, ((one_new _ (.cells #[.int .i64 0, .int .i64 0, .int .i64 0, .int .i64 0, .int .i64 0] 50 (0, 0))).1.block _ (lt_of_block hA)).trans hA⟩ (fun uB hu => ?_)
                clear hS hS2 hA
                obtain ⟨hS, ⟨B, heB, hB, hgB, hnA⟩, hA⟩ := hu
                rw [← heB]
                clear heB
                refine wpAnyH_ready (rs := [16]) (by kernel_rfl) (by simp) ?_
                refine AllReadyH.cons (o := ⟨_, _, _, _, _, _⟩) rfl (fun K hK => ?_) AllReadyH.nil
                obtain ⟨y0, y1, y2, y3, y4⟩ := five_box hA
                obtain ⟨f0, f1, f2, f3, f4⟩ := five_frz hA
                go_simp
                obtain ⟨k5, hk5⟩ := set5 hA (.int .i64 ra1) (.int .i64 (1 : Nat)) (.int .i64 q) (.int .i64 m) (.int .i64 rk1)
                have hb5 := Keeps.one_below hk5 hS.size hgA
                refine hK.out _ _ (hS.trans hb5) (fun hS2 => ?_)
                clear hK K
                try simp only [Act.put, List.setIfInBounds_toArray, List.set_cons_zero, List.set_cons_succ]
                refine gen_anyH (S2 := fun u => Below v4.heap.size v4 u ∧ u.heap[A]? = some (.cells #[.int .i64 ra1, .int .i64 (1 : Nat), .int .i64 q, .int .i64 m, .int .i64 rk1] 50 (0, 0)) ∧ u.heap[B]? = some (.cells #[.int .i64 0, .int .i64 0, .int .i64 0, .int .i64 0, .int .i64 0] 50 (0, 0))) ⟨hS2, k5, hk5.obj hB (by omega)⟩ (fun us hu => ?_)
                clear hS hS2 k5 hk5 hb5 y0 y1 y2 y3 y4 f0 f1 f2 f3 f4 hA hB
                obtain ⟨hS, hA, hB⟩ := hu
                refine wpAnyH_ready (rs := [17]) (by kernel_rfl) (by simp) ?_
                refine AllReadyH.cons (o := ⟨_, _, _, _, _, _⟩) rfl (fun K hK => ?_) AllReadyH.nil
                obtain ⟨y0, y1, y2, y3, y4⟩ := five_box hB
                obtain ⟨f0, f1, f2, f3, f4⟩ := five_frz hB
                go_simp
                obtain ⟨k5, hk5⟩ := set5 hB (.int .i64 ra2) (.int .i64 ((1 + 1 : Nat) : Int)) (.int .i64 ((m + 1 : Nat) : Int)) (.int .i64 e) (.int .i64 rk2)
                have hb5 := Keeps.one_below hk5 hS.size hgB
                refine hK.out _ _ (hS.trans hb5) (fun hS2 => ?_)
                clear hK K
                try simp only [Act.put, List.setIfInBounds_toArray, List.set_cons_zero, List.set_cons_succ]
                refine gen_anyH (S2 := fun u => Below v4.heap.size v4 u ∧ u.heap[B]? = some (.cells #[.int .i64 ra2, .int .i64 ((1 + 1 : Nat) : Int), .int .i64 ((m + 1 : Nat) : Int), .int .i64 e, .int .i64 rk2] 50 (0, 0)) ∧ u.heap[A]? = some (.cells #[.int .i64 ra1, .int .i64 (1 : Nat), .int .i64 q, .int .i64 m, .int .i64 rk1] 50 (0, 0))) ⟨hS2, k5, hk5.obj hA (by omega)⟩ (fun us hu => ?_)
                clear hS hS2 k5 hk5 hb5 y0 y1 y2 y3 y4 f0 f1 f2 f3 f4 hB hA
                obtain ⟨hS, hB, hA⟩ := hu
                refine wpAnyH_done (by kernel_rfl) ?_ _
                go_wp2_with fail
                go_meet
                exact ⟨A, B, rfl, rfl, Lib.hid hS, Lib.hid hA, Lib.hid hB⟩
              · go_simp
                refine hK.out _ _ (hS.trans ((one_new _ (.cells #[.int .i64 0, .int .i64 0, .int .i64 0, .int .i64 0, .int .i64 0] 50 (0, 0))).1.mono hS.size)) (fun hS2 => ?_)
                clear hK K
                try simp only [Act.put, List.setIfInBounds_toArray, List.set_cons_zero, List.set_cons_succ]
                refine gen_anyH (S2 := fun u => Below v4.heap.size v4 u ∧ (∃ X, X = _ ∧ u.heap[X]? = some (.cells #[.int .i64 0, .int .i64 0, .int .i64 0, .int .i64 0, .int .i64 0] 50 (0, 0)) ∧ v4.heap.size ≤ X)) ⟨hS2, ⟨_, rfl, (one_new _ (.cells #[.int .i64 0, .int .i64 0, .int .i64 0, .int .i64 0, .int .i64 0] 50 (0, 0))).2, hS.size⟩⟩ (fun uB hu => ?_)
                clear hS hS2
                obtain ⟨hS, ⟨B, heB, hB, hgB⟩⟩ := hu
                rw [← heB]
                clear heB
                refine wpAnyH_ready (rs := [14]) (by kernel_rfl) (by simp) ?_
                refine AllReadyH.cons (o := ⟨_, _, _, _, _, _⟩) rfl (fun K hK => ?_) AllReadyH.nil
                go_simp
                refine hK.out _ _ (hS.trans ((one_new _ (.cells #[.int .i64 0, .int .i64 0, .int .i64 0, .int .i64 0, .int .i64 0] 50 (0, 0))).1.mono hS.size)) (fun hS2 => ?_)
                clear hK K
                try simp only [Act.put, List.setIfInBounds_toArray, List.set_cons_zero, List.set_cons_succ]
                refine gen_anyH (S2 := fun u => Below v4.heap.size v4 u ∧ (∃ X, X = _ ∧ u.heap[X]? = some (.cells #[.int .i64 0, .int .i64 0, .int .i64 0, .int .i64 0, .int .i64 0] 50 (0, 0)) ∧ v4.heap.size ≤ X ∧ B ≠ X) ∧ u.heap[B]? = some (.cells #[.int .i64 0, .int .i64 0, .int .i64 0, .int .i64 0, .int .i64 0] 50 (0, 0))) ⟨hS2, ⟨_, rfl, (one_new _ (.cells #[.int .i64 0, .int .i64 0, .int .i64 0, .int .i64 0, .int .i64 0] 50 (0, 0))).2, hS.size, (by have := lt_of_block hB; omega)⟩, ((one_new _ (.cells #[.int .i64 0, .int .i64 0, .int .i64 0, .int .i64 0, .int .i64 0] 50 (0, 0))).1.block _ (lt_of_block hB)).trans hB⟩ (fun uA hu => ?_)
                clear hS hS2 hB
                obtain ⟨hS, ⟨A, heA, hA, hgA, hnB⟩, hB⟩ := hu
                rw [← heA]
                clear heA
                refine wpAnyH_ready (rs := [16]) (by kernel_rfl) (by simp) ?_
                refine AllReadyH.cons (o := ⟨_, _, _, _, _, _⟩) rfl (fun K hK => ?_) AllReadyH.nil
                obtain ⟨y0, y1, y2, y3, y4⟩ := five_box hA
                obtain ⟨f0, f1, f2, f3, f4⟩ := five_frz hA
                go_simp
                obtain ⟨k5, hk5⟩ := set5 hA (.int .i64 ra1) (.int .i64 (1 : Nat)) (.int .i64 q) (.int .i64 m) (.int .i64 rk1)
                have hb5 := Keeps.one_below hk5 hS.size hgA
                refine hK.out _ _ (hS.trans hb5) (fun hS2 => ?_)
                clear hK K
                try simp only [Act.put, List.setIfInBounds_toArray, List.set_cons_zero, List.set_cons_succ]
                refine gen_anyH (S2 := fun u => Below v4.heap.size v4 u ∧ u.heap[A]? = some (.cells #[.int .i64 ra1, .int .i64 (1 : Nat), .int .i64 q, .int .i64 m, .int .i64 rk1] 50 (0, 0)) ∧ u.heap[B]? = some (.cells #[.int .i64 0, .int .i64 0, .int .i64 0, .int .i64 0, .int .i64 0] 50 (0, 0))) ⟨hS2, k5, hk5.obj hB (by omega)⟩ (fun us hu => ?_)
                clear hS hS2 k5 hk5 hb5 y0 y1 y2 y3 y4 f0 f1 f2 f3 f4 hA hB
                obtain ⟨hS, hA, hB⟩ := hu
                refine wpAnyH_ready (rs := [17]) (by kernel_rfl) (by simp) ?_
                refine AllReadyH.cons (o := ⟨_, _, _, _, _, _⟩) rfl (fun K hK => ?_) AllReadyH.nil
                obtain ⟨y0, y1, y2, y3, y4⟩ := five_box hB
                obtain ⟨f0, f1, f2, f3, f4⟩ := five_frz hB
                go_simp
                obtain ⟨k5, hk5⟩ := set5 hB (.int .i64 ra2) (.int .i64 ((1 + 1 : Nat) : Int)) (.int .i64 ((m + 1 : Nat) : Int)) (.int .i64 e) (.int .i64 rk2)
                have hb5 := Keeps.one_below hk5 hS.size hgB
                refine hK.out _ _ (hS.trans hb5) (fun hS2 => ?_)
                clear hK K
                try simp only [Act.put, List.setIfInBounds_toArray, List.set_cons_zero, List.set_cons_succ]
                refine gen_anyH (S2 := fun u => Below v4.heap.size v4 u ∧ u.heap[B]? = some (.cells #[.int .i64 ra2, .int .i64 ((1 + 1 : Nat) : Int), .int .i64 ((m + 1 : Nat) : Int), .int .i64 e, .int .i64 rk2] 50 (0, 0)) ∧ u.heap[A]? = some (.cells #[.int .i64 ra1, .int .i64 (1 : Nat), .int .i64 q, .int .i64 m, .int .i64 rk1] 50 (0, 0))) ⟨hS2, k5, hk5.obj hA (by omega)⟩ (fun us hu => ?_)
                clear hS hS2 k5 hk5 hb5 y0 y1 y2 y3 y4 f0 f1 f2 f3 f4 hB hA
                obtain ⟨hS, hB, hA⟩ := hu
                refine wpAnyH_done (by kernel_rfl) ?_ _
                go_wp2_with fail
                go_meet
                exact ⟨A, B, rfl, rfl, Lib.hid hS, Lib.hid hA, Lib.hid hB⟩
            case rest =>
              obtain ⟨A, B, rfl, rfl, HBx, HA1, HB1'⟩ := hcut
              obtain ⟨y0, y1, y2, y3, y4⟩ := five_box HA1.out
              obtain ⟨z0, z1, z2, z3, z4⟩ := five_box HB1'.out
              have HK5 := Lib.hid ((HBx.out.block _ (lt_of_block HK4.out)).trans HK4.out)
              obtain ⟨s0, s1⟩ := two_cells HK5.out
              have hs4 : IntKind.i64.wrap ((m : Int) + 1) = ((m + 1 : Nat) : Int) := by rw [IntWalk.i64_in _ (by have := HHi.out; have := HMid.out; have := HW6.out; omega)]; omega
              have HB5 := Lib.hid (HB4.out.trans (HBx.out.mono HB4.out.size))
              go_wp2
              exact ⟨⟨i + 1, by go_num, by have := HHi.out; omega, Lib.hid (by first | exact HB5.out | exact below_draws HB5.out _)⟩, by simp [intOf]; have := HHi.out; omega⟩
          · rw [l1]
            have L2 := Lib.hid l2
            have L3 := Lib.hid l3
            clear l1 l2 l3
            have HL2 := Lib.hid (last_any 42 _ W q e v2 (HWu.out v2 (HBc.out.trans (HB2.out.mono HBc.out.size))) (by have := HHi.out; omega) HHi.out.2.2.2.1 HW6.out)
            go_wp2_with fail
            refine HL2.out.mono ?_
            rintro en v3 ⟨rfl, hb⟩
            rw [L2.out]
            have HB3 := Lib.hid (HB2.out.trans (hb.mono HB2.out.size))
            have HK3 := Lib.hid ((hb.block _ (lt_of_block HK2.out)).trans HK2.out)
            clear hb s0 s1 x0 x1 x2 x3
            obtain ⟨s0, s1⟩ := two_cells HK3.out
            have K6 := Lib.hid ((HB3.out.block _ (lt_of_block HFc.out)).trans HFc.out)
            obtain ⟨x0, x1, x2, x3⟩ := four_box K6.out
            have hmn : ¬ (m : Int) < 0 := by omega
            have HK := Lib.hid (tKids_any (.slice (some ⟨tb, tf, none⟩) L tc) (i : Int) v3 (HTc.out.later HB3.out))
            go_wp2_with fail
            refine HK.out.mono ?_
            rintro en v4 ⟨vk, rfl, hok, hb⟩
            rw [L3.out.kids] at hok
            obtain ⟨ka, kc, hvk⟩ := own_val hok
            have hvk2 : vk = .slice ka 2 kc := hvk
            subst hvk2
            have HB4 := Lib.hid (HB3.out.trans (hb.mono HB3.out.size))
            have HK4 := Lib.hid ((hb.block _ (lt_of_block HK3.out)).trans HK3.out)
            have K7 := Lib.hid ((HB4.out.block _ (lt_of_block HFc.out)).trans HFc.out)
            clear hb hvk s0 s1 x0 x1 x2 x3
            obtain ⟨gk, hgk⟩ : ∃ gk : Nat, ka = some ⟨gk, 0, none⟩ := by
              rcases hok.2 with ⟨e, h0⟩ | ⟨g, cap, cur, e, -⟩
              · simp at e
              · simp only [Value.slice.injEq] at e
                exact ⟨g, e.1⟩
            subst hgk
            have w0 : v4.cell? ⟨gk, 0, none⟩ = some (.int .i64 ((i + 1 : Nat) : Int)) := (own_get2 hok (j := 0) rfl).1
            have w1 : v4.cell? ⟨gk, 1, none⟩ = some (.int .i64 (n2 : Int)) := (own_get2 hok (j := 1) rfl).1
            have hp := L3.out
            have HP := Lib.hid hp
            obtain ⟨-, p1, p2, ⟨a1, a2, a3⟩, ⟨b1, b2, b3⟩, hmid⟩ := hp
            have HMid := Lib.hid hmid
            obtain ⟨-, -, -, -, hc⟩ := TwAt.cells (HTc.out.later HB4.out).at'
            obtain ⟨tb', tf', hta, -, c0, c1, c2, c3, c4⟩ := hc (i + 1) p1
            simp only [Option.some.injEq, Addr.mk.injEq, and_true] at hta
            obtain ⟨rfl, rfl⟩ := hta
            obtain ⟨tb', tf', hta, -, d0, d1, d2, d3, d4⟩ := hc n2 p2
            simp only [Option.some.injEq, Addr.mk.injEq, and_true] at hta
            obtain ⟨rfl, rfl⟩ := hta
            rw [← atT_get _ p1] at c0 c1 c2 c3 c4
            rw [← atT_get _ p2] at d0 d1 d2 d3 d4
            rw [a1] at c1
            rw [a2] at c2
            rw [a3] at c3
            rw [b1] at d1
            rw [b2] at d2
            rw [b3] at d3
            generalize (atT (y.tw 0 0) (i + 1)).rule = ra1 at c0
            generalize (atT (y.tw 0 0) (i + 1)).kids = rk1 at c4
            generalize (atT (y.tw 0 0) n2).rule = ra2 at d0
            generalize (atT (y.tw 0 0) n2).kids = rk2 at d4
            have hj1 : i + 1 < L := by rw [HLn.out]; exact p1
            have hj2 : n2 < L := by rw [HLn.out]; exact p2
            obtain ⟨j1, hj⟩ : ∃ j1, j1 = i + 1 := ⟨_, rfl⟩
            rw [← hj] at w0 c0 c1 c2 c3 c4 hj1
            have hj1i : (j1 : Int) < L := by omega
            have hj2i : (n2 : Int) < L := by omega
            clear hc hok a1 a2 a3 b1 b2 b3 p1 p2 hj hmid
            obtain ⟨s0, s1⟩ := two_cells HK4.out
            obtain ⟨x0, x1, x2, x3⟩ := four_box K7.out
            go_upto_region 30 with (fail)
            clear s0 s1
            have W0 := Lib.hid w0
            have W1 := Lib.hid w1
            have CC := Lib.hid (And.intro c0 (And.intro c1 (And.intro c2 (And.intro c3 c4))))
            have DD := Lib.hid (And.intro d0 (And.intro d1 (And.intro d2 (And.intro d3 d4))))
            have hJ := Lib.hid (And.intro hj1 (And.intro hj2 (And.intro hj1i hj2i)))
            clear w0 w1 c0 c1 c2 c3 c4 d0 d1 d2 d3 d4 x0 x1 x2 x3
            go_cut [12, 13] (fun a bb wx => ∃ A B : Nat, a = .pointer (some ⟨A, 0, none⟩) ∧ bb = .pointer (some ⟨B, 0, none⟩) ∧ Hid (Below v4.heap.size v4 wx) ∧ Hid (wx.heap[A]? = some (.cells #[.int .i64 ra1, .int .i64 (2 : Nat), .int .i64 q, .int .i64 m, .int .i64 rk1] 50 (0, 0))) ∧ Hid (wx.heap[B]? = some (.cells #[.int .i64 ra2, .int .i64 ((2 + 1 : Nat) : Int), .int .i64 ((m + 1 : Nat) : Int), .int .i64 e, .int .i64 rk2] 50 (0, 0))))
            case first =>
              refine wp_region_held_drew (S := fun u => Below v4.heap.size v4 u) (by kernel_rfl) ((Below.refl v4.heap.size v4).drew) (fun hS => ?_)
              obtain ⟨zd, hzd⟩ : ∃ zd, zd = v4.drew := ⟨_, rfl⟩
              rw [← hzd] at hS ⊢
              clear hzd
              refine wpAnyH_take (i := 0) (oi := ⟨_, _, _, _, _, _⟩) (v := ?v15) rfl (by kernel_rfl) (by kernel_rfl) (by kernel_rfl) (fun _ _ _ h => h) ?y15 hS ?_
              case y15 => first | (refine Or.inr ⟨by rfl, ?_⟩; with_reducible rfl) | (refine Or.inl ⟨by rfl, ?_⟩; intro wS hSw; obtain ⟨x0, x1, x2, x3⟩ := four_box ((hSw.block _ (lt_of_block K7.out)).trans K7.out); have w0 := cell_later hSw W0.out; have w1 := cell_later hSw W1.out; have c0 := cell_later hSw CC.out.1; have c1 := cell_later hSw CC.out.2.1; have c2 := cell_later hSw CC.out.2.2.1; have c3 := cell_later hSw CC.out.2.2.2.1; have c4 := cell_later hSw CC.out.2.2.2.2; have d0 := cell_later hSw DD.out.1; have d1 := cell_later hSw DD.out.2.1; have d2 := cell_later hSw DD.out.2.2.1; have d3 := cell_later hSw DD.out.2.2.2.1; have d4 := cell_later hSw DD.out.2.2.2.2; obtain ⟨hj1, hj2, hj1i, hj2i⟩ := hJ.out; go_simp; try with_reducible rfl)
              simp only [Act.put, List.setIfInBounds_toArray, List.set_cons_zero, List.set_cons_succ]
              refine wpAnyH_take (i := 1) (oi := ⟨_, _, _, _, _, _⟩) (v := ?v16) rfl (by kernel_rfl) (by kernel_rfl) (by kernel_rfl) (fun _ _ _ h => h) ?y16 hS ?_
              case y16 => first | (refine Or.inr ⟨by rfl, ?_⟩; with_reducible rfl) | (refine Or.inl ⟨by rfl, ?_⟩; intro wS hSw; obtain ⟨x0, x1, x2, x3⟩ := four_box ((hSw.block _ (lt_of_block K7.out)).trans K7.out); have w0 := cell_later hSw W0.out; have w1 := cell_later hSw W1.out; have c0 := cell_later hSw CC.out.1; have c1 := cell_later hSw CC.out.2.1; have c2 := cell_later hSw CC.out.2.2.1; have c3 := cell_later hSw CC.out.2.2.2.1; have c4 := cell_later hSw CC.out.2.2.2.2; have d0 := cell_later hSw DD.out.1; have d1 := cell_later hSw DD.out.2.1; have d2 := cell_later hSw DD.out.2.2.1; have d3 := cell_later hSw DD.out.2.2.2.1; have d4 := cell_later hSw DD.out.2.2.2.2; obtain ⟨hj1, hj2, hj1i, hj2i⟩ := hJ.out; go_simp; try with_reducible rfl)
              simp only [Act.put, List.setIfInBounds_toArray, List.set_cons_zero, List.set_cons_succ]
              refine wpAnyH_take (i := 2) (oi := ⟨_, _, _, _, _, _⟩) (v := ?v17) rfl (by kernel_rfl) (by kernel_rfl) (by kernel_rfl) (fun _ _ _ h => h) ?y17 hS ?_
              case y17 => first | (refine Or.inr ⟨by rfl, ?_⟩; with_reducible rfl) | (refine Or.inl ⟨by rfl, ?_⟩; intro wS hSw; obtain ⟨x0, x1, x2, x3⟩ := four_box ((hSw.block _ (lt_of_block K7.out)).trans K7.out); have w0 := cell_later hSw W0.out; have w1 := cell_later hSw W1.out; have c0 := cell_later hSw CC.out.1; have c1 := cell_later hSw CC.out.2.1; have c2 := cell_later hSw CC.out.2.2.1; have c3 := cell_later hSw CC.out.2.2.2.1; have c4 := cell_later hSw CC.out.2.2.2.2; have d0 := cell_later hSw DD.out.1; have d1 := cell_later hSw DD.out.2.1; have d2 := cell_later hSw DD.out.2.2.1; have d3 := cell_later hSw DD.out.2.2.2.1; have d4 := cell_later hSw DD.out.2.2.2.2; obtain ⟨hj1, hj2, hj1i, hj2i⟩ := hJ.out; go_simp; try with_reducible rfl)
              simp only [Act.put, List.setIfInBounds_toArray, List.set_cons_zero, List.set_cons_succ]
              refine wpAnyH_take (i := 3) (oi := ⟨_, _, _, _, _, _⟩) (v := ?v18) rfl (by kernel_rfl) (by kernel_rfl) (by kernel_rfl) (fun _ _ _ h => h) ?y18 hS ?_
              case y18 => first | (refine Or.inr ⟨by rfl, ?_⟩; with_reducible rfl) | (refine Or.inl ⟨by rfl, ?_⟩; intro wS hSw; obtain ⟨x0, x1, x2, x3⟩ := four_box ((hSw.block _ (lt_of_block K7.out)).trans K7.out); have w0 := cell_later hSw W0.out; have w1 := cell_later hSw W1.out; have c0 := cell_later hSw CC.out.1; have c1 := cell_later hSw CC.out.2.1; have c2 := cell_later hSw CC.out.2.2.1; have c3 := cell_later hSw CC.out.2.2.2.1; have c4 := cell_later hSw CC.out.2.2.2.2; have d0 := cell_later hSw DD.out.1; have d1 := cell_later hSw DD.out.2.1; have d2 := cell_later hSw DD.out.2.2.1; have d3 := cell_later hSw DD.out.2.2.2.1; have d4 := cell_later hSw DD.out.2.2.2.2; obtain ⟨hj1, hj2, hj1i, hj2i⟩ := hJ.out; go_simp; try with_reducible rfl)
              simp only [Act.put, List.setIfInBounds_toArray, List.set_cons_zero, List.set_cons_succ]
              refine wpAnyH_take (i := 4) (oi := ⟨_, _, _, _, _, _⟩) (v := ?v19) rfl (by kernel_rfl) (by kernel_rfl) (by kernel_rfl) (fun _ _ _ h => h) ?y19 hS ?_
              case y19 => first | (refine Or.inr ⟨by rfl, ?_⟩; with_reducible rfl) | (refine Or.inl ⟨by rfl, ?_⟩; intro wS hSw; obtain ⟨x0, x1, x2, x3⟩ := four_box ((hSw.block _ (lt_of_block K7.out)).trans K7.out); have w0 := cell_later hSw W0.out; have w1 := cell_later hSw W1.out; have c0 := cell_later hSw CC.out.1; have c1 := cell_later hSw CC.out.2.1; have c2 := cell_later hSw CC.out.2.2.1; have c3 := cell_later hSw CC.out.2.2.2.1; have c4 := cell_later hSw CC.out.2.2.2.2; have d0 := cell_later hSw DD.out.1; have d1 := cell_later hSw DD.out.2.1; have d2 := cell_later hSw DD.out.2.2.1; have d3 := cell_later hSw DD.out.2.2.2.1; have d4 := cell_later hSw DD.out.2.2.2.2; obtain ⟨hj1, hj2, hj1i, hj2i⟩ := hJ.out; go_simp; try with_reducible rfl)
              simp only [Act.put, List.setIfInBounds_toArray, List.set_cons_zero, List.set_cons_succ]
              refine wpAnyH_take (i := 5) (oi := ⟨_, _, _, _, _, _⟩) (v := ?v20) rfl (by kernel_rfl) (by kernel_rfl) (by kernel_rfl) (fun _ _ _ h => h) ?y20 hS ?_
              case y20 => first | (refine Or.inr ⟨by rfl, ?_⟩; with_reducible rfl) | (refine Or.inl ⟨by rfl, ?_⟩; intro wS hSw; obtain ⟨x0, x1, x2, x3⟩ := four_box ((hSw.block _ (lt_of_block K7.out)).trans K7.out); have w0 := cell_later hSw W0.out; have w1 := cell_later hSw W1.out; have c0 := cell_later hSw CC.out.1; have c1 := cell_later hSw CC.out.2.1; have c2 := cell_later hSw CC.out.2.2.1; have c3 := cell_later hSw CC.out.2.2.2.1; have c4 := cell_later hSw CC.out.2.2.2.2; have d0 := cell_later hSw DD.out.1; have d1 := cell_later hSw DD.out.2.1; have d2 := cell_later hSw DD.out.2.2.1; have d3 := cell_later hSw DD.out.2.2.2.1; have d4 := cell_later hSw DD.out.2.2.2.2; obtain ⟨hj1, hj2, hj1i, hj2i⟩ := hJ.out; go_simp; try with_reducible rfl)
              simp only [Act.put, List.setIfInBounds_toArray, List.set_cons_zero, List.set_cons_succ]
              refine wpAnyH_take (i := 6) (oi := ⟨_, _, _, _, _, _⟩) (v := ?v21) rfl (by kernel_rfl) (by kernel_rfl) (by kernel_rfl) (fun _ _ _ h => h) ?y21 hS ?_
              case y21 => first | (refine Or.inr ⟨by rfl, ?_⟩; with_reducible rfl) | (refine Or.inl ⟨by rfl, ?_⟩; intro wS hSw; obtain ⟨x0, x1, x2, x3⟩ := four_box ((hSw.block _ (lt_of_block K7.out)).trans K7.out); have w0 := cell_later hSw W0.out; have w1 := cell_later hSw W1.out; have c0 := cell_later hSw CC.out.1; have c1 := cell_later hSw CC.out.2.1; have c2 := cell_later hSw CC.out.2.2.1; have c3 := cell_later hSw CC.out.2.2.2.1; have c4 := cell_later hSw CC.out.2.2.2.2; have d0 := cell_later hSw DD.out.1; have d1 := cell_later hSw DD.out.2.1; have d2 := cell_later hSw DD.out.2.2.1; have d3 := cell_later hSw DD.out.2.2.2.1; have d4 := cell_later hSw DD.out.2.2.2.2; obtain ⟨hj1, hj2, hj1i, hj2i⟩ := hJ.out; go_simp; try with_reducible rfl)
              simp only [Act.put, List.setIfInBounds_toArray, List.set_cons_zero, List.set_cons_succ]
              refine wpAnyH_take (i := 7) (oi := ⟨_, _, _, _, _, _⟩) (v := ?v22) rfl (by kernel_rfl) (by kernel_rfl) (by kernel_rfl) (fun _ _ _ h => h) ?y22 hS ?_
              case y22 => first | (refine Or.inr ⟨by rfl, ?_⟩; with_reducible rfl) | (refine Or.inl ⟨by rfl, ?_⟩; intro wS hSw; obtain ⟨x0, x1, x2, x3⟩ := four_box ((hSw.block _ (lt_of_block K7.out)).trans K7.out); have w0 := cell_later hSw W0.out; have w1 := cell_later hSw W1.out; have c0 := cell_later hSw CC.out.1; have c1 := cell_later hSw CC.out.2.1; have c2 := cell_later hSw CC.out.2.2.1; have c3 := cell_later hSw CC.out.2.2.2.1; have c4 := cell_later hSw CC.out.2.2.2.2; have d0 := cell_later hSw DD.out.1; have d1 := cell_later hSw DD.out.2.1; have d2 := cell_later hSw DD.out.2.2.1; have d3 := cell_later hSw DD.out.2.2.2.1; have d4 := cell_later hSw DD.out.2.2.2.2; obtain ⟨hj1, hj2, hj1i, hj2i⟩ := hJ.out; go_simp; try with_reducible rfl)
              simp only [Act.put, List.setIfInBounds_toArray, List.set_cons_zero, List.set_cons_succ]
              refine wpAnyH_take (i := 8) (oi := ⟨_, _, _, _, _, _⟩) (v := ?v23) rfl (by kernel_rfl) (by kernel_rfl) (by kernel_rfl) (fun _ _ _ h => h) ?y23 hS ?_
              case y23 => first | (refine Or.inr ⟨by rfl, ?_⟩; with_reducible rfl) | (refine Or.inl ⟨by rfl, ?_⟩; intro wS hSw; obtain ⟨x0, x1, x2, x3⟩ := four_box ((hSw.block _ (lt_of_block K7.out)).trans K7.out); have w0 := cell_later hSw W0.out; have w1 := cell_later hSw W1.out; have c0 := cell_later hSw CC.out.1; have c1 := cell_later hSw CC.out.2.1; have c2 := cell_later hSw CC.out.2.2.1; have c3 := cell_later hSw CC.out.2.2.2.1; have c4 := cell_later hSw CC.out.2.2.2.2; have d0 := cell_later hSw DD.out.1; have d1 := cell_later hSw DD.out.2.1; have d2 := cell_later hSw DD.out.2.2.1; have d3 := cell_later hSw DD.out.2.2.2.1; have d4 := cell_later hSw DD.out.2.2.2.2; obtain ⟨hj1, hj2, hj1i, hj2i⟩ := hJ.out; go_simp; try with_reducible rfl)
              simp only [Act.put, List.setIfInBounds_toArray, List.set_cons_zero, List.set_cons_succ]
              refine wpAnyH_take (i := 9) (oi := ⟨_, _, _, _, _, _⟩) (v := ?v24) rfl (by kernel_rfl) (by kernel_rfl) (by kernel_rfl) (fun _ _ _ h => h) ?y24 hS ?_
              case y24 => first | (refine Or.inr ⟨by rfl, ?_⟩; with_reducible rfl) | (refine Or.inl ⟨by rfl, ?_⟩; intro wS hSw; obtain ⟨x0, x1, x2, x3⟩ := four_box ((hSw.block _ (lt_of_block K7.out)).trans K7.out); have w0 := cell_later hSw W0.out; have w1 := cell_later hSw W1.out; have c0 := cell_later hSw CC.out.1; have c1 := cell_later hSw CC.out.2.1; have c2 := cell_later hSw CC.out.2.2.1; have c3 := cell_later hSw CC.out.2.2.2.1; have c4 := cell_later hSw CC.out.2.2.2.2; have d0 := cell_later hSw DD.out.1; have d1 := cell_later hSw DD.out.2.1; have d2 := cell_later hSw DD.out.2.2.1; have d3 := cell_later hSw DD.out.2.2.2.1; have d4 := cell_later hSw DD.out.2.2.2.2; obtain ⟨hj1, hj2, hj1i, hj2i⟩ := hJ.out; go_simp; try with_reducible rfl)
              simp only [Act.put, List.setIfInBounds_toArray, List.set_cons_zero, List.set_cons_succ]
              refine wpAnyH_take (i := 10) (oi := ⟨_, _, _, _, _, _⟩) (v := ?v25) rfl (by kernel_rfl) (by kernel_rfl) (by kernel_rfl) (fun _ _ _ h => h) ?y25 hS ?_
              case y25 => first | (refine Or.inr ⟨by rfl, ?_⟩; with_reducible rfl) | (refine Or.inl ⟨by rfl, ?_⟩; intro wS hSw; obtain ⟨x0, x1, x2, x3⟩ := four_box ((hSw.block _ (lt_of_block K7.out)).trans K7.out); have w0 := cell_later hSw W0.out; have w1 := cell_later hSw W1.out; have c0 := cell_later hSw CC.out.1; have c1 := cell_later hSw CC.out.2.1; have c2 := cell_later hSw CC.out.2.2.1; have c3 := cell_later hSw CC.out.2.2.2.1; have c4 := cell_later hSw CC.out.2.2.2.2; have d0 := cell_later hSw DD.out.1; have d1 := cell_later hSw DD.out.2.1; have d2 := cell_later hSw DD.out.2.2.1; have d3 := cell_later hSw DD.out.2.2.2.1; have d4 := cell_later hSw DD.out.2.2.2.2; obtain ⟨hj1, hj2, hj1i, hj2i⟩ := hJ.out; go_simp; try with_reducible rfl)
              simp only [Act.put, List.setIfInBounds_toArray, List.set_cons_zero, List.set_cons_succ]
              refine wpAnyH_take (i := 11) (oi := ⟨_, _, _, _, _, _⟩) (v := ?v26) rfl (by kernel_rfl) (by kernel_rfl) (by kernel_rfl) (fun _ _ _ h => h) ?y26 hS ?_
              case y26 => first | (refine Or.inr ⟨by rfl, ?_⟩; with_reducible rfl) | (refine Or.inl ⟨by rfl, ?_⟩; intro wS hSw; obtain ⟨x0, x1, x2, x3⟩ := four_box ((hSw.block _ (lt_of_block K7.out)).trans K7.out); have w0 := cell_later hSw W0.out; have w1 := cell_later hSw W1.out; have c0 := cell_later hSw CC.out.1; have c1 := cell_later hSw CC.out.2.1; have c2 := cell_later hSw CC.out.2.2.1; have c3 := cell_later hSw CC.out.2.2.2.1; have c4 := cell_later hSw CC.out.2.2.2.2; have d0 := cell_later hSw DD.out.1; have d1 := cell_later hSw DD.out.2.1; have d2 := cell_later hSw DD.out.2.2.1; have d3 := cell_later hSw DD.out.2.2.2.1; have d4 := cell_later hSw DD.out.2.2.2.2; obtain ⟨hj1, hj2, hj1i, hj2i⟩ := hJ.out; go_simp; try with_reducible rfl)
              simp only [Act.put, List.setIfInBounds_toArray, List.set_cons_zero, List.set_cons_succ]
              refine wpAnyH_take (i := 12) (oi := ⟨_, _, _, _, _, _⟩) (v := ?v27) rfl (by kernel_rfl) (by kernel_rfl) (by kernel_rfl) (fun _ _ _ h => h) ?y27 hS ?_
              case y27 => first | (refine Or.inr ⟨by rfl, ?_⟩; with_reducible rfl) | (refine Or.inl ⟨by rfl, ?_⟩; intro wS hSw; obtain ⟨x0, x1, x2, x3⟩ := four_box ((hSw.block _ (lt_of_block K7.out)).trans K7.out); have w0 := cell_later hSw W0.out; have w1 := cell_later hSw W1.out; have c0 := cell_later hSw CC.out.1; have c1 := cell_later hSw CC.out.2.1; have c2 := cell_later hSw CC.out.2.2.1; have c3 := cell_later hSw CC.out.2.2.2.1; have c4 := cell_later hSw CC.out.2.2.2.2; have d0 := cell_later hSw DD.out.1; have d1 := cell_later hSw DD.out.2.1; have d2 := cell_later hSw DD.out.2.2.1; have d3 := cell_later hSw DD.out.2.2.2.1; have d4 := cell_later hSw DD.out.2.2.2.2; obtain ⟨hj1, hj2, hj1i, hj2i⟩ := hJ.out; go_simp; try with_reducible rfl)
              simp only [Act.put, List.setIfInBounds_toArray, List.set_cons_zero, List.set_cons_succ]
              refine wpAnyH_take (i := 13) (oi := ⟨_, _, _, _, _, _⟩) (v := ?v28) rfl (by kernel_rfl) (by kernel_rfl) (by kernel_rfl) (fun _ _ _ h => h) ?y28 hS ?_
              case y28 => first | (refine Or.inr ⟨by rfl, ?_⟩; with_reducible rfl) | (refine Or.inl ⟨by rfl, ?_⟩; intro wS hSw; obtain ⟨x0, x1, x2, x3⟩ := four_box ((hSw.block _ (lt_of_block K7.out)).trans K7.out); have w0 := cell_later hSw W0.out; have w1 := cell_later hSw W1.out; have c0 := cell_later hSw CC.out.1; have c1 := cell_later hSw CC.out.2.1; have c2 := cell_later hSw CC.out.2.2.1; have c3 := cell_later hSw CC.out.2.2.2.1; have c4 := cell_later hSw CC.out.2.2.2.2; have d0 := cell_later hSw DD.out.1; have d1 := cell_later hSw DD.out.2.1; have d2 := cell_later hSw DD.out.2.2.1; have d3 := cell_later hSw DD.out.2.2.2.1; have d4 := cell_later hSw DD.out.2.2.2.2; obtain ⟨hj1, hj2, hj1i, hj2i⟩ := hJ.out; go_simp; try with_reducible rfl)
              simp only [Act.put, List.setIfInBounds_toArray, List.set_cons_zero, List.set_cons_succ]
              refine wpAnyH_ready (rs := [14, 15]) (by kernel_rfl) (by simp) ?_
              refine AllReadyH.cons (o := ⟨_, _, _, _, _, _⟩) rfl (fun K hK => ?_) (AllReadyH.cons (o := ⟨_, _, _, _, _, _⟩) rfl (fun K hK => ?_) AllReadyH.nil)
              · go_simp
                refine hK.out _ _ (hS.trans ((one_new _ (.cells #[.int .i64 0, .int .i64 0, .int .i64 0, .int .i64 0, .int .i64 0] 50 (0, 0))).1.mono hS.size)) (fun hS2 => ?_)
                clear hK K
                try simp only [Act.put, List.setIfInBounds_toArray, List.set_cons_zero, List.set_cons_succ]
                refine gen_anyH (S2 := fun u => Below v4.heap.size v4 u ∧ (∃ X, X = _ ∧ u.heap[X]? = some (.cells #[.int .i64 0, .int .i64 0, .int .i64 0, .int .i64 0, .int .i64 0] 50 (0, 0)) ∧ v4.heap.size ≤ X)) ⟨hS2, ⟨_, rfl, (one_new _ (.cells #[.int .i64 0, .int .i64 0, .int .i64 0, .int .i64 0, .int .i64 0] 50 (0, 0))).2, hS.size⟩⟩ (fun uA hu => ?_)
                clear hS hS2
                obtain ⟨hS, ⟨A, heA, hA, hgA⟩⟩ := hu
                rw [← heA]
                clear heA
                refine wpAnyH_ready (rs := [15]) (by kernel_rfl) (by simp) ?_
                refine AllReadyH.cons (o := ⟨_, _, _, _, _, _⟩) rfl (fun K hK => ?_) AllReadyH.nil
                go_simp
                refine hK.out _ _ (hS.trans ((one_new _ (.cells #[.int .i64 0, .int .i64 0, .int .i64 0, .int .i64 0, .int .i64 0] 50 (0, 0))).1.mono hS.size)) (fun hS2 => ?_)
                clear hK K
                try simp only [Act.put, List.setIfInBounds_toArray, List.set_cons_zero, List.set_cons_succ]
                refine gen_anyH (S2 := fun u => Below v4.heap.size v4 u ∧ (∃ X, X = _ ∧ u.heap[X]? = some (.cells #[.int .i64 0, .int .i64 0, .int .i64 0, .int .i64 0, .int .i64 0] 50 (0, 0)) ∧ v4.heap.size ≤ X ∧ A ≠ X) ∧ u.heap[A]? = some (.cells #[.int .i64 0, .int .i64 0, .int .i64 0, .int .i64 0, .int .i64 0] 50 (0, 0))) ⟨hS2, ⟨_, rfl, (one_new _ (.cells #[.int .i64 0, .int .i64 0, .int .i64 0, .int .i64 0, .int .i64 0] 50 (0, 0))).2, hS.size, (by have := lt_of_block hA; omega)⟩, ((one_new _ (.cells #[.int .i64 0, .int .i64 0, .int .i64 0, .int .i64 0, .int .i64 0] 50 (0, 0))).1.block _ (lt_of_block hA)).trans hA⟩ (fun uB hu => ?_)
                clear hS hS2 hA
                obtain ⟨hS, ⟨B, heB, hB, hgB, hnA⟩, hA⟩ := hu
                rw [← heB]
                clear heB
                refine wpAnyH_ready (rs := [16]) (by kernel_rfl) (by simp) ?_
                refine AllReadyH.cons (o := ⟨_, _, _, _, _, _⟩) rfl (fun K hK => ?_) AllReadyH.nil
                obtain ⟨y0, y1, y2, y3, y4⟩ := five_box hA
                obtain ⟨f0, f1, f2, f3, f4⟩ := five_frz hA
                go_simp
                obtain ⟨k5, hk5⟩ := set5 hA (.int .i64 ra1) (.int .i64 (2 : Nat)) (.int .i64 q) (.int .i64 m) (.int .i64 rk1)
                have hb5 := Keeps.one_below hk5 hS.size hgA
                refine hK.out _ _ (hS.trans hb5) (fun hS2 => ?_)
                clear hK K
                try simp only [Act.put, List.setIfInBounds_toArray, List.set_cons_zero, List.set_cons_succ]
                refine gen_anyH (S2 := fun u => Below v4.heap.size v4 u ∧ u.heap[A]? = some (.cells #[.int .i64 ra1, .int .i64 (2 : Nat), .int .i64 q, .int .i64 m, .int .i64 rk1] 50 (0, 0)) ∧ u.heap[B]? = some (.cells #[.int .i64 0, .int .i64 0, .int .i64 0, .int .i64 0, .int .i64 0] 50 (0, 0))) ⟨hS2, k5, hk5.obj hB (by omega)⟩ (fun us hu => ?_)
                clear hS hS2 k5 hk5 hb5 y0 y1 y2 y3 y4 f0 f1 f2 f3 f4 hA hB
                obtain ⟨hS, hA, hB⟩ := hu
                refine wpAnyH_ready (rs := [17]) (by kernel_rfl) (by simp) ?_
                refine AllReadyH.cons (o := ⟨_, _, _, _, _, _⟩) rfl (fun K hK => ?_) AllReadyH.nil
                obtain ⟨y0, y1, y2, y3, y4⟩ := five_box hB
                obtain ⟨f0, f1, f2, f3, f4⟩ := five_frz hB
                go_simp
                obtain ⟨k5, hk5⟩ := set5 hB (.int .i64 ra2) (.int .i64 ((2 + 1 : Nat) : Int)) (.int .i64 ((m + 1 : Nat) : Int)) (.int .i64 e) (.int .i64 rk2)
                have hb5 := Keeps.one_below hk5 hS.size hgB
                refine hK.out _ _ (hS.trans hb5) (fun hS2 => ?_)
                clear hK K
                try simp only [Act.put, List.setIfInBounds_toArray, List.set_cons_zero, List.set_cons_succ]
                refine gen_anyH (S2 := fun u => Below v4.heap.size v4 u ∧ u.heap[B]? = some (.cells #[.int .i64 ra2, .int .i64 ((2 + 1 : Nat) : Int), .int .i64 ((m + 1 : Nat) : Int), .int .i64 e, .int .i64 rk2] 50 (0, 0)) ∧ u.heap[A]? = some (.cells #[.int .i64 ra1, .int .i64 (2 : Nat), .int .i64 q, .int .i64 m, .int .i64 rk1] 50 (0, 0))) ⟨hS2, k5, hk5.obj hA (by omega)⟩ (fun us hu => ?_)
                clear hS hS2 k5 hk5 hb5 y0 y1 y2 y3 y4 f0 f1 f2 f3 f4 hB hA
                obtain ⟨hS, hB, hA⟩ := hu
                refine wpAnyH_done (by kernel_rfl) ?_ _
                go_wp2_with fail
                go_meet
                exact ⟨A, B, rfl, rfl, Lib.hid hS, Lib.hid hA, Lib.hid hB⟩
              · go_simp
                refine hK.out _ _ (hS.trans ((one_new _ (.cells #[.int .i64 0, .int .i64 0, .int .i64 0, .int .i64 0, .int .i64 0] 50 (0, 0))).1.mono hS.size)) (fun hS2 => ?_)
                clear hK K
                try simp only [Act.put, List.setIfInBounds_toArray, List.set_cons_zero, List.set_cons_succ]
                refine gen_anyH (S2 := fun u => Below v4.heap.size v4 u ∧ (∃ X, X = _ ∧ u.heap[X]? = some (.cells #[.int .i64 0, .int .i64 0, .int .i64 0, .int .i64 0, .int .i64 0] 50 (0, 0)) ∧ v4.heap.size ≤ X)) ⟨hS2, ⟨_, rfl, (one_new _ (.cells #[.int .i64 0, .int .i64 0, .int .i64 0, .int .i64 0, .int .i64 0] 50 (0, 0))).2, hS.size⟩⟩ (fun uB hu => ?_)
                clear hS hS2
                obtain ⟨hS, ⟨B, heB, hB, hgB⟩⟩ := hu
                rw [← heB]
                clear heB
                refine wpAnyH_ready (rs := [14]) (by kernel_rfl) (by simp) ?_
                refine AllReadyH.cons (o := ⟨_, _, _, _, _, _⟩) rfl (fun K hK => ?_) AllReadyH.nil
                go_simp
                refine hK.out _ _ (hS.trans ((one_new _ (.cells #[.int .i64 0, .int .i64 0, .int .i64 0, .int .i64 0, .int .i64 0] 50 (0, 0))).1.mono hS.size)) (fun hS2 => ?_)
                clear hK K
                try simp only [Act.put, List.setIfInBounds_toArray, List.set_cons_zero, List.set_cons_succ]
                refine gen_anyH (S2 := fun u => Below v4.heap.size v4 u ∧ (∃ X, X = _ ∧ u.heap[X]? = some (.cells #[.int .i64 0, .int .i64 0, .int .i64 0, .int .i64 0, .int .i64 0] 50 (0, 0)) ∧ v4.heap.size ≤ X ∧ B ≠ X) ∧ u.heap[B]? = some (.cells #[.int .i64 0, .int .i64 0, .int .i64 0, .int .i64 0, .int .i64 0] 50 (0, 0))) ⟨hS2, ⟨_, rfl, (one_new _ (.cells #[.int .i64 0, .int .i64 0, .int .i64 0, .int .i64 0, .int .i64 0] 50 (0, 0))).2, hS.size, (by have := lt_of_block hB; omega)⟩, ((one_new _ (.cells #[.int .i64 0, .int .i64 0, .int .i64 0, .int .i64 0, .int .i64 0] 50 (0, 0))).1.block _ (lt_of_block hB)).trans hB⟩ (fun uA hu => ?_)
                clear hS hS2 hB
                obtain ⟨hS, ⟨A, heA, hA, hgA, hnB⟩, hB⟩ := hu
                rw [← heA]
                clear heA
                refine wpAnyH_ready (rs := [16]) (by kernel_rfl) (by simp) ?_
                refine AllReadyH.cons (o := ⟨_, _, _, _, _, _⟩) rfl (fun K hK => ?_) AllReadyH.nil
                obtain ⟨y0, y1, y2, y3, y4⟩ := five_box hA
                obtain ⟨f0, f1, f2, f3, f4⟩ := five_frz hA
                go_simp
                obtain ⟨k5, hk5⟩ := set5 hA (.int .i64 ra1) (.int .i64 (2 : Nat)) (.int .i64 q) (.int .i64 m) (.int .i64 rk1)
                have hb5 := Keeps.one_below hk5 hS.size hgA
                refine hK.out _ _ (hS.trans hb5) (fun hS2 => ?_)
                clear hK K
                try simp only [Act.put, List.setIfInBounds_toArray, List.set_cons_zero, List.set_cons_succ]
                refine gen_anyH (S2 := fun u => Below v4.heap.size v4 u ∧ u.heap[A]? = some (.cells #[.int .i64 ra1, .int .i64 (2 : Nat), .int .i64 q, .int .i64 m, .int .i64 rk1] 50 (0, 0)) ∧ u.heap[B]? = some (.cells #[.int .i64 0, .int .i64 0, .int .i64 0, .int .i64 0, .int .i64 0] 50 (0, 0))) ⟨hS2, k5, hk5.obj hB (by omega)⟩ (fun us hu => ?_)
                clear hS hS2 k5 hk5 hb5 y0 y1 y2 y3 y4 f0 f1 f2 f3 f4 hA hB
                obtain ⟨hS, hA, hB⟩ := hu
                refine wpAnyH_ready (rs := [17]) (by kernel_rfl) (by simp) ?_
                refine AllReadyH.cons (o := ⟨_, _, _, _, _, _⟩) rfl (fun K hK => ?_) AllReadyH.nil
                obtain ⟨y0, y1, y2, y3, y4⟩ := five_box hB
                obtain ⟨f0, f1, f2, f3, f4⟩ := five_frz hB
                go_simp
                obtain ⟨k5, hk5⟩ := set5 hB (.int .i64 ra2) (.int .i64 ((2 + 1 : Nat) : Int)) (.int .i64 ((m + 1 : Nat) : Int)) (.int .i64 e) (.int .i64 rk2)
                have hb5 := Keeps.one_below hk5 hS.size hgB
                refine hK.out _ _ (hS.trans hb5) (fun hS2 => ?_)
                clear hK K
                try simp only [Act.put, List.setIfInBounds_toArray, List.set_cons_zero, List.set_cons_succ]
                refine gen_anyH (S2 := fun u => Below v4.heap.size v4 u ∧ u.heap[B]? = some (.cells #[.int .i64 ra2, .int .i64 ((2 + 1 : Nat) : Int), .int .i64 ((m + 1 : Nat) : Int), .int .i64 e, .int .i64 rk2] 50 (0, 0)) ∧ u.heap[A]? = some (.cells #[.int .i64 ra1, .int .i64 (2 : Nat), .int .i64 q, .int .i64 m, .int .i64 rk1] 50 (0, 0))) ⟨hS2, k5, hk5.obj hA (by omega)⟩ (fun us hu => ?_)
                clear hS hS2 k5 hk5 hb5 y0 y1 y2 y3 y4 f0 f1 f2 f3 f4 hB hA
                obtain ⟨hS, hB, hA⟩ := hu
                refine wpAnyH_done (by kernel_rfl) ?_ _
                go_wp2_with fail
                go_meet
                exact ⟨A, B, rfl, rfl, Lib.hid hS, Lib.hid hA, Lib.hid hB⟩
            case rest =>
              obtain ⟨A, B, rfl, rfl, HBx, HA1, HB1'⟩ := hcut
              obtain ⟨y0, y1, y2, y3, y4⟩ := five_box HA1.out
              obtain ⟨z0, z1, z2, z3, z4⟩ := five_box HB1'.out
              have HK5 := Lib.hid ((HBx.out.block _ (lt_of_block HK4.out)).trans HK4.out)
              obtain ⟨s0, s1⟩ := two_cells HK5.out
              have hs4 : IntKind.i64.wrap ((m : Int) + 1) = ((m + 1 : Nat) : Int) := by rw [IntWalk.i64_in _ (by have := HHi.out; have := HMid.out; have := HW6.out; omega)]; omega
              have HB5 := Lib.hid (HB4.out.trans (HBx.out.mono HB4.out.size))
              go_wp2
              exact ⟨⟨i + 1, by go_num, by have := HHi.out; omega, Lib.hid (by first | exact HB5.out | exact below_draws HB5.out _)⟩, by simp [intOf]; have := HHi.out; omega⟩
        · have hil2 : ¬ (i : Int) < L := by omega
          go_wp2
          go_ret
          exact ⟨rfl, BW.out.trans (HBr.out.mono BW.out.size)⟩
  · have hm := levels_miss hA
    go_wp2_with fail
    refine (HMM.out _ _ hm).mono ?_
    rintro e z ⟨⟨tv, he, ht⟩, hb⟩
    have he2 : e = .returned (.tuple #[.agg #[.bool false, .int .i64 0, .int .i64 0, tv], .int .i64 (aSp 4194304 ⟨4194298, false⟩), .int .i64 0]) := he
    subst he2
    clear he
    generalize aSp 4194304 ⟨4194298, false⟩ = sp
    have ht2 : TwIn z tv [] := ht
    clear ht
    obtain ⟨ta, tc, htv⟩ := ht2.val'
    have htv2 : tv = .slice ta 0 tc := htv
    subst htv2
    have HAA := Lib.hid hA
    clear hm HMM hA htv
    have HT := Lib.hid ht2
    have BZ := Lib.hid (B1.out.trans (hb.mono B1.out.size))
    clear ht2 hb
    go_upto_region 6 with (fail)
    refine gen_world (S := fun u => Below z.heap.size z u ∧ u.heap[z.heap.size]? = some (.cells #[.bool false, .int .i64 0, .int .i64 0, .slice ta 0 tc] 35 (0, 0))) (one_new z _) (fun u1 hu => ?_)
    obtain ⟨hb, k1⟩ := hu
    have HTu := Lib.hid (HT.out.later hb)
    have BU := Lib.hid (BZ.out.trans (hb.mono BZ.out.size))
    obtain ⟨F, hF⟩ : ∃ F, F = z.heap.size := ⟨_, rfl⟩
    rw [← hF] at k1 ⊢
    have HF := Lib.hid k1
    clear hb k1 hF HT BZ
    obtain ⟨x0, x1, x2, x3⟩ := four_box HF.out
    by_cases hw0 : 0 < wl
    · have hw1 : (0 : Int) < wl := by omega
      have hx : ∃ x, W[0]? = some x ∧ ao = some ⟨b, off, none⟩ ∧ u1.cell? ⟨b, off, none⟩ = some (.int .u8 (x.toNat : Int)) := ⟨W[0]'(by rw [← HWl.out]; exact hw0), List.getElem?_eq_getElem _, HA.out (by rw [← HWl.out]; omega), cell_later BU.out (HC.out 0 (by rw [← HWl.out]; exact hw0))⟩
      obtain ⟨q0, hq0, hao, hc0⟩ := hx
      subst hao
      have d1 : q0 ≠ 97 := fun h => HAA.out (by rw [hq0, h])
      have d1a : ((q0.toNat : Int) == 97) = false := by
        rw [beq_eq_false_iff_ne]
        intro h
        exact d1 (UInt8.toNat_inj.1 (by rw [show (97 : UInt8).toNat = 97 from rfl]; exact_mod_cast h))
      have d1b : ¬ ((q0.toNat : Int) = 97) := by simpa using d1a
      clear hq0 d1
      go_wp2
      go_loopw [7, 8, 9, 10, 11, 12, 13] (fun a _ _ _ _ _ _ vq => a = .int .i64 0 ∧ Hid (Below u1.heap.size u1 vq)) (fun _ _ _ _ _ _ _ _ => 0)
      case atStart => exact ⟨rfl, Lib.hid (by first | exact Below.refl _ _ | exact below_draws (Below.refl _ _) _)⟩
      case round =>
        obtain ⟨rfl, HBr⟩ := hrel
        obtain ⟨x0, x1, x2, x3⟩ := four_box ((HBr.out.block _ (lt_of_block HF.out)).trans HF.out)
        go_wp2
        go_ret
        exact ⟨rfl, BU.out.trans (HBr.out.mono BU.out.size)⟩
    · obtain rfl : wl = 0 := by omega
      go_wp2
      go_loopw [7, 8, 9, 10, 11, 12, 13] (fun a _ _ _ _ _ _ vq => a = .int .i64 0 ∧ Hid (Below u1.heap.size u1 vq)) (fun _ _ _ _ _ _ _ _ => 0)
      case atStart => exact ⟨rfl, Lib.hid (by first | exact Below.refl _ _ | exact below_draws (Below.refl _ _) _)⟩
      case round =>
        obtain ⟨rfl, HBr⟩ := hrel
        obtain ⟨x0, x1, x2, x3⟩ := four_box ((HBr.out.block _ (lt_of_block HF.out)).trans HF.out)
        go_wp2
        go_ret
        exact ⟨rfl, BU.out.trans (HBr.out.mono BU.out.size)⟩
end Go.Proofs.YtkimkghldilliaaGreat
namespace Go.Proofs.YtkimkghldilliaaGreat
open Go.ChangeShapes Go.WideShapes Go.ChangeAt Go.RowKit Go.ChangeMaps

theorem Tryz.cellsB : Tryz.prog.cellsOf 5 = 1 := by kernel_rfl
set_option maxRecDepth 100000 in
theorem meanLevels_lifted (os : Os) (started : os.Started) (H : Type) (enc : TypeId × Value → H) :
    ReturnsInHanded {} Tryz.checked os 5 .any (Rows.meanLevelsSpec.pre6 enc Tryz.prog Tryz.f5 Rows.meanLevelsRow.domain false) (Rows.meanLevelsSpec.post enc Tryz.prog Tryz.f5 false true false false) := by
  refine returnsInHanded_of_change (C := Tryz.checked) Tryz.own started (by kernel_rfl) Tryz.func5
    (ChangeSpec.witness6 (enc := enc) (C := Tryz.checked) false ⟨#[], #[.slice none 0 0], []⟩ 8 (by kernel_rfl) (by kernel_rfl) (by kernel_rfl) (by kernel_rfl)) ?_
  intro W base args ds gs before hval0 hW _ _
  have hval : ∀ (j : Nat) t v, Tryz.f5.params[j]? = some t → args[j]? = some v → Value.okWide Tryz.prog W .any base t v := hval0
  have hW' := hW
  obtain ⟨p, q, hA0, hV, rfl, hfz, hnd⟩ := hW
  have hA : DataW.TrodAll enc Tryz.prog W 0 (fun _ => true) true Tryz.f5.params.toList args.toList ds p := hA0
  rw [Tryz.params5] at hA hval
  obtain ⟨v0, vs0, d0, ds0, p0, q0, hargs, rfl, rfl, h0, r0⟩ := trodAll_cons hA
  obtain ⟨rfl, rfl, rfl⟩ := trodAll_nil r0
  obtain rfl : args = #[v0] := by cases args; simp_all
  obtain ⟨rfl, rfl⟩ := trodVars_none hV
  obtain ⟨bs, hbs⟩ := open_bytes Tryz.underlying26 Tryz.underlying5 Tryz.cellsB (hval 0 26 v0 rfl rfl) h0
  refine (levels_any v0 bs W hbs).mono fun e W' ⟨he, hb⟩ => ?_
  subst he
  exact ⟨_, rfl, law_post Tryz.laidOut (by rw [Tryz.params5]; decide +kernel) rfl rfl Tryz.underlying4 hb hW' rfl rfl rfl⟩

theorem meanLevels_holds : Rows.MeanLevelsSaid :=
  OpenClaim.holds_of_wide 5 Tryz.f5 rfl rfl rfl rfl rfl rfl rfl ⟨rfl, rfl, rfl, rfl, rfl⟩ rfl rfl rfl rfl rfl (by kernel_rfl) Tryz.func5 (by kernel_rfl)
    (of_decide_eq_true (by kernel_rfl)) (by unfold Func.isWrapper; first | (rw [if_pos (by decide +kernel)]; kernel_rfl) | (rw [if_neg (by decide +kernel)]; exact ⟨rfl, rfl⟩))
    (fun os started H enc _ => meanLevels_lifted os started H enc)
end Go.Proofs.YtkimkghldilliaaGreat
