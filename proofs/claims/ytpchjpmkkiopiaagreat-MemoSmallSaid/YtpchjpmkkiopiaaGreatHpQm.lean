import Derived.Test.YtpchjpmkkiopiaaGreatHpYm
namespace Go.Proofs.YtpchjpmkkiopiaaGreat
open Go.RowKit Go.Lib

/-- what is known in the midst of a step down. -/
structure DnS [Watch] (base : Nat) (w wr : World) (r m : Nat) (lv : Value) (L L' : List En) (n i0 i : Nat) : Prop where
  ge : i0 ≤ i
  row : RowIs base wr r m lv L'
  inv : DnI (pos L') n i (decide (i0 < i))
  prm : L'.Perm L
  len : L'.length = L.length
  far : ∀ k, n ≤ k → pos L' k = pos L k
  sam : i = i0 → L' = L
  kep : KeepH base w wr
set_option maxRecDepth 100000 in
set_option maxHeartbeats 4000000 in
theorem down_any [Watch] {base r m : Nat} {lv : Value} {L : List En} (i0 n : Nat) (w : World) (h : RowIs base w r m lv L) (hn : n ≤ L.length) (hi : i0 ≤ 100000) (hu : DnI (pos L) n i0 false) :
    Calls Tryz.prog 80 #[.iface 107 (.pointer (some ⟨r, 0, none⟩)), .int .i64 i0, .int .i64 n] w fun e w' => ∃ L' i, e = .returned (.bool (decide (i0 < i))) ∧ DnS base w w' r m lv L L' n i0 i ∧ UpI (pos L') n i ∧ (i0 < i → Hp (pos L') n) := by
  have mL : ∀ w, (method 287 107 (.pointer (some ⟨r, 0, none⟩)) "Less").run Tryz.prog w = .ok (115, .pointer (some ⟨r, 0, none⟩)) w := fun _ => by kernel_rfl
  have mS : ∀ w, (method 287 107 (.pointer (some ⟨r, 0, none⟩)) "Swap").run Tryz.prog w = .ok (118, .pointer (some ⟨r, 0, none⟩)) w := fun _ => by kernel_rfl
  have eL : ∀ args w, (callFunc 115 args).run Tryz.prog w = .ok (.enter 115 args) w := fun _ _ => by kernel_rfl
  have eS : ∀ args w, (callFunc 118 args).run Tryz.prog w = .ok (.enter 118 args) w := fun _ _ => by kernel_rfl
  have hle := h.le
  have H := Lib.hid (show DnS base w w r m lv L L n i0 i0 from ⟨Nat.le_refl _, h, by rw [show decide (i0 < i0) = false by simp]; exact hu, List.Perm.refl _, rfl, fun _ _ => rfl, fun _ => rfl, Keeps.refl _ _⟩)
  have Hn := Lib.hid hn
  have Hle := Lib.hid hle
  clear h hu hn hle
  go_enter Tryz.func80, Tryz.ntmps80
  go_wp2_with fail
  go_loopw [7] (fun v7 wr => ∃ (i : Nat) (L' : List En), v7 = .int .i64 i ∧ i ≤ 100000 ∧ DnS base w wr r m lv L L' n i0 i) (fun i _ => 100001 - (intOf i).toNat)
  case atStart => exact ⟨i0, L, rfl, hi, H.out⟩
  case round =>
    obtain ⟨i, L', rfl, hib, hd⟩ := hrel
    have HD := Lib.hid hd
    have hlen := hd.len
    clear hd H
    obtain ⟨j1, hj1⟩ : ∃ j1, j1 = 2 * i + 1 := ⟨_, rfl⟩
    have hw1 : IntKind.i64.wrap (2 * (i : Int)) = 2 * (i : Int) := IntWalk.i64_in _ (by omega)
    have hw2 : IntKind.i64.wrap (2 * (i : Int) + 1) = (j1 : Int) := (IntWalk.i64_in _ (by omega)).trans (by omega)
    have hw3 : IntKind.i64.wrap ((j1 : Int) + 1) = ((j1 + 1 : Nat) : Int) := (IntWalk.i64_in _ (by omega)).trans (by omega)
    obtain ⟨j2, hj2⟩ : ∃ j2, j2 = j1 + 1 := ⟨_, rfl⟩
    rw [← hj2] at hw3
    have HJ1 := Lib.hid hj1
    have HJ2 := Lib.hid hj2
    by_cases hge : n ≤ j1
    · have hq : decide ((n : Int) ≤ (j1 : Int)) = true := by simp; omega
      have hq2 : decide (n ≤ j1) = true := by simpa using hge
      have HNo := Lib.hid (show ∀ k, 0 < k → k < n → par k = i → En.le (pos L' i) (pos L' k) from fun k k0 kn kp => by unfold par at kp; omega)
      clear hge hj1 hj2 mL mS eL eS
      go_wp2
      go_ret
      obtain ⟨d1, d2⟩ := dn_done HD.out.inv HNo.out
      exact ⟨L', i, by simp, HD.out, d1, fun h => d2 (by simpa using h)⟩
    · have hq : decide ((n : Int) ≤ (j1 : Int)) = false := by simp; omega
      have hq2 : decide (n ≤ j1) = false := by simpa using hge
      have hj0 : ¬ ((j1 : Int) < 0) := by omega
      have Hlt := Lib.hid (show j1 < n by omega)
      have Hln := Lib.hid hlen
      clear hge hj1 hj2 hlen
      go_upto_region 6 with (fail)
      go_cut [33] (fun t33 w1 => ∃ b : Bool, t33 = .bool b ∧ (b = true → j2 < n ∧ En.lt (pos L' j2) (pos L' j1)) ∧ (b = false → j2 < n → En.le (pos L' j1) (pos L' j2)) ∧ Below wr.heap.size wr w1)
      case first =>
        by_cases h2 : j2 < n
        · have hq3 : decide ((j2 : Int) < (n : Int)) = true := by simp; omega
          have hq4 : decide (j2 < n) = true := by simpa using h2
          have H2 := Lib.hid h2
          have HL := Lib.hid (rLess_any j2 j1 wr HD.out.row (by rw [Hln.out]; have := Hn.out; omega) (by rw [Hln.out]; have := Hn.out; have := Hlt.out; omega))
          clear h2
          go_wp2_with fail
          refine HL.out.mono ?_
          rintro e w2 ⟨rfl, hb2⟩
          have HB2 := Lib.hid hb2
          clear hb2 HL
          go_wp2_with fail
          go_meet
          exact ⟨_, rfl, fun h => ⟨H2.out, by simpa using h⟩, fun h _ => show ¬ En.lt (pos L' j2) (pos L' j1) from by simpa using h, HB2.out⟩
        · have hq3 : decide ((j2 : Int) < (n : Int)) = false := by simp; omega
          have hq4 : decide (j2 < n) = false := by simpa using h2
          have H2 := Lib.hid h2
          clear h2
          go_wp2_with fail
          go_meet
          exact ⟨false, rfl, fun h => by simp at h, fun _ h => absurd h H2.out, Below.refl _ _⟩
      case rest =>
        obtain ⟨b, rfl, hb1, hb0, hbel⟩ := hcut
        have HRc := Lib.hid (HD.out.row.later hbel)
        have HKc := Lib.hid (KeepH.trans HD.out.kep (KeepH.ofBelow hbel))
        have HB1 := Lib.hid hb1
        have HB0 := Lib.hid hb0
        clear hbel hb1 hb0
        go_upto_if 33 with (fail)
        go_cut [9] (fun v9 w1 => ∃ jm : Nat, v9 = .int .i64 jm ∧ 0 < jm ∧ jm < n ∧ par jm = i ∧ (∀ k, 0 < k → k < n → par k = i → En.le (pos L' jm) (pos L' k)) ∧ wc = w1)
        case first =>
          cases b with
          | true =>
            go_wp2_with fail
            go_meet
            have h1 := HJ1.out
            have h2 := HJ2.out
            obtain ⟨h3, h4⟩ := HB1.out (by simp)
            exact ⟨j2, rfl, by omega, h3, by unfold par; omega, fun k k0 kn kp => by
              unfold par at kp
              have : k = j1 ∨ k = j2 := by omega
              rcases this with rfl | rfl
              · exact En.lt_le h4
              · exact En.le_refl _, rfl⟩
          | false =>
            go_wp2_with fail
            go_meet
            have h1 := HJ1.out
            have h2 := HJ2.out
            exact ⟨j1, rfl, by omega, Hlt.out, by unfold par; omega, fun k k0 kn kp => by
              unfold par at kp
              have : k = j1 ∨ k = j2 := by omega
              rcases this with rfl | rfl
              · exact En.le_refl _
              · exact HB0.out (by simp) kn, rfl⟩
        case rest =>
          obtain ⟨jm, rfl, hm0, hmn, hmp, hmin, rfl⟩ := hcut
          have HM0 := Lib.hid hm0
          have HMn := Lib.hid hmn
          have HMp := Lib.hid hmp
          have HMin := Lib.hid hmin
          have hil := par_lt hm0
          rw [hmp] at hil
          have HIl := Lib.hid hil
          have HnL := Lib.hid (show n ≤ L'.length by rw [Hln.out]; exact Hn.out)
          have hL := rLess_any jm i wc HRc.out (by have := HnL.out; omega) (by have := HnL.out; omega)
          clear hm0 hmn hmp hmin hil
          by_cases hlt : En.lt (pos L' jm) (pos L' i)
          · rw [decide_eq_true hlt] at hL
            have HL := Lib.hid hL
            have Hl2 := Lib.hid hlt
            clear hL hlt
            go_wp2_with fail
            refine HL.out.mono ?_
            rintro e w2 ⟨rfl, hb2⟩
            have HR2 := Lib.hid (HRc.out.later hb2)
            have HK2 := Lib.hid (KeepH.trans HKc.out (KeepH.ofBelow hb2))
            clear hb2 HL
            go_wp2_with fail
            refine (rSwap_any i jm w2 HR2.out (by have := HnL.out; have := HMn.out; have := HIl.out; omega) (by have := HnL.out; have := HMn.out; omega)).mono ?_
            rintro e w3 ⟨rfl, hr3, hk3⟩
            have HR3 := Lib.hid hr3
            have HK3 := Lib.hid (KeepH.trans HK2.out hk3)
            clear hr3 hk3
            go_wp2_with fail
            go_roundw
            case rel =>
              have h1 := HnL.out
              have h2 := HMn.out
              have h3 := HIl.out
              have h4 := HD.out.ge
              have hps := pos_swl (L := L') (i := i) (j := jm) (by omega) (by omega) (by omega)
              refine ⟨jm, swl L' i jm, rfl, by have := Hn.out; have := Hle.out; omega, ⟨by omega, HR3.out, ?_, (swl_perm (by omega) (by omega)).trans HD.out.prm, by rw [swl_len]; exact HD.out.len, fun k hk => ?_, fun e => by omega, HK3.out⟩⟩
              · rw [show decide (i0 < jm) = true by simp; omega, hps]
                exact dn_step HD.out.inv HM0.out HMn.out HMp.out HMin.out Hl2.out
              · rw [hps]
                unfold swp
                rw [if_neg (by omega), if_neg (by omega)]
                exact HD.out.far k hk
            case measure => have := HIl.out; have := HMn.out; have := Hn.out; have := Hle.out; simp [intOf]; omega
          · rw [decide_eq_false hlt] at hL
            have HL := Lib.hid hL
            have Hl2 := Lib.hid hlt
            clear hL hlt
            go_wp2_with fail
            refine HL.out.mono ?_
            rintro e w2 ⟨rfl, hb2⟩
            have HR2 := Lib.hid (HRc.out.later hb2)
            have HK2 := Lib.hid (KeepH.trans HKc.out (KeepH.ofBelow hb2))
            clear hb2 HL
            go_wp2
            go_ret
            obtain ⟨d1, d2⟩ := dn_done HD.out.inv (fun k k0 kn kp => En.le_trans Hl2.out (HMin.out k k0 kn kp))
            exact ⟨L', i, by simp, ⟨HD.out.ge, HR2.out, HD.out.inv, HD.out.prm, HD.out.len, HD.out.far, HD.out.sam, HK2.out⟩, d1, fun h => d2 (by simpa using h)⟩
end Go.Proofs.YtpchjpmkkiopiaaGreat
namespace Go.Proofs.YtpchjpmkkiopiaaGreat
open Go.RowKit Go.Lib

theorem step_delete {P : Program} {ops : Array Oper} {o : Oper} {a : Act} {w : World} {K : Act → World → Prop} {Q : Exit → Act → World → Prop} {E : Prop}
    (hg : o.guard = none) (m x : Operand) (t k : TypeId) (hop : o.op = Op.call { callee := Callee.builtin Builtin.delete, args := #[m, x], argTypes := #[t, k] })
    (vm vx : Value) (hm : a.eval m = vm) (hx : a.eval x = vx) (w' : World) (hrun : (Builtin.delete_ #[t, k] o.type #[vm, vx]).run P w = .ok (.tuple #[]) w')
    (hK : K (a.put o.dst (.tuple #[])) w') :
    if Region.wanted o (yielded ops a.tmps) = true then Oper.wp P o a w K Q else E := by
  have hw : Region.wanted o (yielded ops a.tmps) = true := by simp [Region.wanted, hg]
  rw [if_pos hw]
  unfold Oper.wp
  simp [execOp, hop, resolve, invoke, builtin, hm, hx, hrun, Result.andThen]
  exact hK

theorem whr_pop {L : List En} (ho : Once L) {n1 : Nat} (hn : L.length = n1 + 1) (x : Int) : whr (L.take n1) x = setF (whr L) (pos L n1).name none x := by
  have ht : (L.take n1).length = n1 := by simp; omega
  have hp : ∀ k, k < n1 → pos (L.take n1) k = pos L k := fun k hk => by
    rw [pos_get (by omega), pos_get (by omega), List.getElem_take]
  have ho' : Once (L.take n1) := by
    unfold Once at ho ⊢
    rw [List.map_take]
    exact (List.take_sublist _ _).nodup ho
  unfold setF
  by_cases hx : x = (pos L n1).name
  · rw [if_pos hx]
    refine whr_none fun k hk e => ?_
    rw [ht] at hk
    rw [hp k hk, hx] at e
    have e1 := whr_some ho (by omega : k < L.length) e
    have e2 := whr_some ho (by omega : n1 < L.length) rfl
    rw [e1] at e2
    simp at e2
    omega
  · rw [if_neg hx]
    cases hw : whr L x with
    | none => exact whr_none fun k hk => by rw [ht] at hk; rw [hp k hk]; exact whr_not hw k (by omega)
    | some k =>
      obtain ⟨hk, hkx⟩ := whr_is hw
      have hk1 : k < n1 := by
        rcases Nat.lt_or_ge k n1 with h | h
        · exact h
        · have : k = n1 := by omega
          subst this
          exact absurd hkx.symm hx
      exact whr_some ho' (by rw [ht]; exact hk1) (by rw [hp k hk1]; exact hkx)
theorem flat_take : ∀ (L : List En) (n : Nat), (L.flatMap enc).take (n * 3) = (L.take n).flatMap enc
  | [], n => by simp
  | a :: r, 0 => by simp
  | a :: r, n + 1 => by
    have ih := flat_take r n
    have e1 : (n + 1) * 3 = n * 3 + 3 := by omega
    simp only [List.flatMap_cons, List.take_succ_cons, e1, ← ih]
    simp [enc]
theorem row_take {w : World} {base g n cap n1 : Nat} {t : TypeId} {L : List En} (h : w.ownsRow base t 3 (.slice (some ⟨g, 0, none⟩) n cap) n (L.flatMap enc)) (hn : n1 ≤ n) : w.ownsRow base t 3 (.slice (some ⟨g, 0, none⟩) n1 cap) n1 ((L.take n1).flatMap enc) := by
  have hl : L.length = n := by have := h.1; rw [flat_len enc_len] at this; omega
  obtain ⟨g', cap', cur, hv, hb, hg, h1, h2, h3, ht⟩ := h.2.resolve_left (fun h => by simp at h)
  simp only [Value.slice.injEq, Option.some.injEq, Addr.mk.injEq] at hv
  obtain ⟨⟨rfl, -⟩, -, rfl⟩ := hv
  refine ⟨by rw [flat_len enc_len]; simp; omega, .inr ⟨g, cap, cur, rfl, hb, hg, by omega, h2, h3, ?_⟩⟩
  rw [← flat_take, ← ht, List.take_take]
  congr 1
  omega
set_option maxRecDepth 100000 in
set_option maxHeartbeats 2000000 in
theorem rPop_any [Watch] {base r m : Nat} {lv : Value} {L : List En} {n1 : Nat} (w : World) (h : RowIs base w r m lv L) (hn : L.length = n1 + 1) :
    Calls Tryz.prog 116 #[.pointer (some ⟨r, 0, none⟩)] w fun e w' => e = .returned (.iface 133 (env (pos L n1))) ∧ ∃ lv', RowIs base w' r m lv' (L.take n1) ∧ KeepH base w w' ∧ lv'.ownBlock = lv.ownBlock := by
  have H := Lib.hid h
  have Hn := Lib.hid hn
  have hr := h.row
  have hle := h.le
  obtain ⟨c0, c1, f0⟩ := h.cells
  obtain ⟨g, cap, rfl⟩ := own_shape hr (by omega)
  obtain ⟨⟨a0, a1, a2⟩, -⟩ := row3 hr n1 (by omega)
  have hcap : n1 + 1 ≤ cap := by
    obtain ⟨g', cap', cur, hv, -, -, h1, -⟩ := hr.2.resolve_left (fun h => by simp at h)
    simp only [Value.slice.injEq] at hv
    rw [hn] at h1
    omega
  rw [hn] at c0
  obtain ⟨n, hn2⟩ : ∃ n, n = n1 + 1 := ⟨_, rfl⟩
  rw [← hn2] at c0
  have hw : IntKind.i64.wrap ((n : Int) - 1) = (n1 : Int) := (IntWalk.i64_in _ (by omega)).trans (by omega)
  have hkn : (n1 : Int) < n := by omega
  have hkc : (n1 : Int) ≤ cap := by omega
  have hkc2 : n1 ≤ cap := by omega
  have HR := Lib.hid hr
  obtain ⟨e, he⟩ : ∃ e, e = pos L n1 := ⟨_, rfl⟩
  rw [← he] at a0 a1 a2 ⊢
  have HE := Lib.hid he
  clear h hr hle hn hcap hn2 he
  go_enter Tryz.func116, Tryz.ntmps116
  go_upto_region 1 with (fail)
  have hal := (one_new w (.cells #[.int .i64 0, .int .i64 0, .int .i64 0] 133 (0, 0))).1
  have c0' := cell_later hal c0
  have a0' := cell_later hal a0
  have a1' := cell_later hal a1
  have a2' := cell_later hal a2
  go_region
  all_goals go_upto_region 2 with (fail)
  obtain ⟨hb1, hx1⟩ := one_new w (.cells #[.int .i64 e.key, .int .i64 e.name, .int .i64 e.turn] 133 (0, 0))
  refine gen_world (S := fun u => Below w.heap.size w u ∧ u.heap[w.heap.size]? = some (.cells #[.int .i64 e.key, .int .i64 e.name, .int .i64 e.turn] 133 (0, 0))) ⟨hb1.drew, hx1⟩ (fun u hu => ?_)
  obtain ⟨hbu, hxu⟩ := hu
  have HU := Lib.hid (H.out.later hbu)
  have HB := Lib.hid hbu
  have HX := Lib.hid hxu
  have hXr : w.heap.size ≠ r := by have := lt_of_block H.out.blk; omega
  obtain ⟨X, hX⟩ : ∃ X, X = w.heap.size := ⟨_, rfl⟩
  rw [← hX] at HX hXr ⊢
  have HXr := Lib.hid hXr
  have hbl := HU.out.blk
  rw [Hn.out] at hbl
  obtain ⟨d0, d1⟩ := two_box hbl
  have df : u.frozen? ⟨r, 0, none⟩ = false := (block_cell' hbl 0).2
  have hnn : n = n1 + 1 := by have := hkn; have e1 := two_box H.out.blk; rw [Hn.out] at e1; rw [c0] at e1; simpa using e1.1
  rw [← hnn] at d0
  clear hnn
  clear hb1 hx1 hbu hxu hX hXr c0 c1 f0 a0 a1 a2 hal c0' a0' a1' a2' hbl
  go_region
  all_goals go_upto_region 3 with (fail)
  have hks : Keeps (fun k => k = r) u (u.setCell ⟨r, 0, none⟩ (.slice (some ⟨g, 0, none⟩) n1 cap)).drew := ((Keeps.refl (fun k => k = r) u).setCell (p := ⟨r, 0, none⟩) rfl _).drew
  refine gen_world (S := fun v => Keeps (fun k => k = r) u v ∧ v.heap[r]? = some (.cells #[.slice (some ⟨g, 0, none⟩) n1 cap, .map (some m)] 111 (0, 0))) ⟨hks, block_setCell' HU.out.blk⟩ (fun u2 hu => ?_)
  obtain ⟨hk2, hr2⟩ := hu
  have hmr : m ≠ r := fun e => by obtain ⟨D, ⟨es, clock, h1, -⟩, -⟩ := H.out.fn; rw [e, H.out.blk] at h1; simp at h1
  have hfn := HU.out.fn.keeps hk2 hmr
  have hwf := H.out.wf e (by rw [HE.out, pos_get (by rw [Hn.out]; omega)]; exact List.getElem_mem _)
  obtain ⟨u3, hrun, hm3, hk3⟩ := (hfn.of_block (w' := u2.drew) rfl).del hwf 0
  have hx2 := hk2.obj HX.out HXr.out
  obtain ⟨y0, y1, y2, -⟩ := three_box hx2
  obtain ⟨-, z1⟩ := two_box hr2
  have hxm : X ≠ m := fun e => by obtain ⟨D, ⟨es, clock, h1, -⟩, -⟩ := hfn; rw [← e, hx2] at h1; simp at h1
  have HR2 := Lib.hid hr2
  have HK2 := Lib.hid hk2
  have HFn := Lib.hid hfn
  have HM3 := Lib.hid hm3
  have HK3 := Lib.hid hk3
  have Hrun := Lib.hid hrun
  have hx3 := hk3.obj (show u2.drew.heap[X]? = _ from hx2) hxm
  have HX3 := Lib.hid hx3
  have HMr := Lib.hid hmr
  clear hks hk2 hr2 hmr hfn hwf hm3 hk3 hrun hx2 hxm hx3 d0 d1 df
  go_region_law (refine step_delete (by rfl) _ _ _ _ (by rfl) (.map (some m)) (.int .i64 e.name) (by rfl) (by rfl) u3 Hrun.out ?_)
  all_goals clear y0 y1 y2 z1
  all_goals obtain ⟨y0, y1, y2, -⟩ := three_box HX3.out
  all_goals go_wp2
  all_goals go_ret
  all_goals
    have htl : (L.take n1).length = n1 := by simp [Hn.out]
    have hbm : ∀ k cs, u2.heap[k]? = some (.cells cs 133 (0, 0)) → ¬ k = m := fun k cs h e => by obtain ⟨D, ⟨es, clock, h1, -⟩, -⟩ := HFn.out; rw [e, h1] at h; simp at h
    have hbr : ∀ k cs, u.heap[k]? = some (.cells cs 133 (0, 0)) → ¬ k = r := fun k cs h e => by rw [e, HU.out.blk] at h; simp at h
    have hku3 : Keeps (· = m) u2 u3 := ((Keeps.refl (· = m) u2).drew).trans HK3.out
    have hrow := row_kept (row_kept (row_take HU.out.row (n1 := n1) (by rw [Hn.out]; omega)) HK2.out hbr) hku3 hbm
    refine ⟨rfl, .slice (some ⟨g, 0, none⟩) n1 cap, ⟨hku3.obj HR2.out (Ne.symm HMr.out), by rw [htl]; exact hrow, ?_, ?_, fun e he => H.out.wf e (List.mem_of_mem_take he), H.out.br, H.out.bm, by rw [htl]; have := H.out.le; have := Hn.out; omega, H.out.nr, H.out.nm, H.out.nl, Nat.le_trans H.out.lim (Nat.le_trans HB.out.size (Nat.le_trans HK2.out.size hku3.size))⟩, ?_, rfl⟩
    · rw [htl]
      have hm := HM3.out
      have hs : (whr L e.name).isSome = true := by rw [HE.out, whr_some H.out.once (by rw [Hn.out]; omega) rfl]; rfl
      rw [hs, if_pos rfl, Hn.out, Nat.add_sub_cancel] at hm
      exact hm.ext fun x _ => by rw [whr_pop H.out.once Hn.out, HE.out]
    · have ho := H.out.once
      unfold Once at ho ⊢
      rw [List.map_take]
      exact (List.take_sublist _ _).nodup ho
    · exact KeepH.trans (KeepH.trans (KeepH.ofBelow HB.out) (Keeps.mono HK2.out fun k _ e => by subst e; exact ⟨⟨H.out.br, H.out.nr⟩, by rw [HU.out.blk]; simp⟩)) (KeepH.ofMap HFn.out H.out.bm H.out.nm hku3)
end Go.Proofs.YtpchjpmkkiopiaaGreat
