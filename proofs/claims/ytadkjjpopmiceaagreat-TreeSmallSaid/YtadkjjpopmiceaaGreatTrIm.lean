import Derived.Test.YtadkjjpopmiceaaGreatTrGm
namespace Go.Proofs.YtadkjjpopmiceaaGreat
open Go.RowKit Go.Lib

structure RInv (l : List Tw) (n k : Nat) (S : List Op) : Prop where
  res : rightB l = goB l k S
  bot : (n : Int) - k ≤ botS S
  ne : S ≠ []
  len : S.length ≤ k + 1
structure PInv (S S2 : List Op) : Prop where
  pop : pops S2 = pops S
  bot : botS S2 = botS S
  nep : pops S ≠ []
  len : S2.length ≤ S.length
theorem PInv.cons {S S2 : List Op} (h : PInv S S2) : ∃ o S', S2 = o :: S' := by
  cases S2 with
  | nil => exact absurd h.pop.symm h.nep
  | cons o S' => exact ⟨o, S', rfl⟩
theorem PInv.next {S S' : List Op} {o : Op} (h : PInv S (o :: S')) (h0 : o.left = 0) : PInv S S' := by
  have hp := h.pop
  rw [pops, if_pos h0] at hp
  refine ⟨hp, ?_, h.nep, by have := h.len; simp at this; omega⟩
  cases S' with
  | nil => exact absurd hp.symm h.nep
  | cons o2 S' => exact h.bot
set_option maxRecDepth 100000 in
set_option maxHeartbeats 4000000 in
theorem right_any (v : Value) (l : List Tw) (w : World) (h : TwAt w v l) (hok : ∀ t ∈ l, twOk t) (hl : l.length ≤ 1000000) :
    Calls Tryz.prog 7 #[v] w fun e w' => e = .returned (.bool (rightB l)) ∧ Below w.heap.size w w' := by
  have H := Lib.hid h
  obtain ⟨ao, cap, rfl⟩ := h.val
  obtain ⟨n, hn⟩ : ∃ n, n = l.length := ⟨_, rfl⟩
  have HN := Lib.hid hn
  have HOk := Lib.hid hok
  have hR0 : RInv l n 0 [⟨n, 0, 9223372036854775807, 0⟩] := ⟨by rw [hn]; rfl, by simp [botS], by simp, by simp⟩
  have HR0 := Lib.hid hR0
  rw [← hn] at hl H ⊢
  clear h hok hn hR0
  obtain ⟨i0, hi0, hz0, hz1, hz2⟩ := info_parts Tryz.infoOpen
  go_enter Tryz.func7, Tryz.ntmps7
  go_upto_region 2 with (fail)
  refine gen_world (S := fun u => Below w.heap.size w u ∧ Stk w.heap.size u (.slice (some ⟨w.heap.size, 0, none⟩) 1 1) [⟨n, 0, 9223372036854775807, 0⟩]) ⟨(one_new w _).1, ⟨own_shut (by simp [opc]) (Nat.le_refl _) (heap_alloc_new w _) (Nat.le_refl _) (by unfold maxLen; omega) rfl rfl, fun o ho => by simp at ho; subst ho; unfold okO; simp only []; omega⟩⟩ (fun u0 hu => ?_)
  obtain ⟨hb0, hs0⟩ := hu
  have HB0 := Lib.hid hb0
  have HS0 := Lib.hid hs0
  clear hb0 hs0
  go_wp2
  go_loopw [3, 14] (fun v i wr => ∃ (k : Nat) (S : List Op), k ≤ n ∧ i = .int .i64 k ∧ Stk w.heap.size wr v S ∧ Below w.heap.size w wr ∧ Hid (RInv l n k S)) (fun _ i _ => n - (intOf i).toNat)
  case atStart => exact ⟨0, _, Nat.zero_le _, rfl, HS0.out, HB0.out, HR0⟩
  case round =>
    obtain ⟨k, S, hk, rfl, hs, hbel, HI⟩ := hrel
    by_cases hlt : k < n
    · have hlt2 : (k : Int) < n := by omega
      obtain ⟨b, off, rfl, hblt, e0, e1, e2, e3, e4⟩ := (H.out.later hbel).cells.2.2.2.2 k (by rw [← HN.out]; exact hlt)
      obtain ⟨t, ht⟩ : ∃ t, t = l[k]'(by rw [← HN.out]; exact hlt) := ⟨_, rfl⟩
      rw [← ht] at e0 e1 e2 e3 e4
      have HT := Lib.hid (show t = atT l k from by rw [atT_get l (by rw [← HN.out]; exact hlt), ht])
      have htk := HOk.out t (by rw [ht]; exact List.getElem_mem _)
      obtain ⟨htk1, htk2⟩ := htk
      have HS := Lib.hid hs
      have HB := Lib.hid hbel
      clear ht hs hbel
      go_wp2
      refine gen_world (S := fun u => Below wr.heap.size wr u ∧ u.heap[wr.heap.size]? = some (.cells #[.int .i64 t.rule, .int .i64 t.lev, .int .i64 t.fr, .int .i64 t.to, .int .i64 t.kids] 45 (0, 0))) (one_new wr _) (fun u hu => ?_)
      obtain ⟨hb1, hx1⟩ := hu
      have HS1 := Lib.hid (HS.out.later hb1)
      have HB1 := Lib.hid (HB.out.trans (hb1.mono HB.out.size))
      have HX := Lib.hid hx1
      obtain ⟨X, hX⟩ : ∃ X, X = wr.heap.size := ⟨_, rfl⟩
      rw [← hX] at HX ⊢
      have hP : PInv S S := ⟨rfl, rfl, (accS_pops (l := l) (n := k) S (by have := HI.out.bot; omega)).2.2, Nat.le_refl _⟩
      have HP := Lib.hid hP
      clear hb1 hx1 e0 e1 e2 e3 e4 hX hP
      go_loopw [3] (fun v wr2 => ∃ S2 : List Op, Stk w.heap.size wr2 v S2 ∧ Below u.heap.size u wr2 ∧ Hid (PInv S S2)) (fun v _ => lenOf v)
      case atStart => exact ⟨S, HS1.out, Below.refl _ _, HP⟩
      case round =>
        obtain ⟨S2, hs2, hb2, HP2⟩ := hrel
        obtain ⟨o, S', rfl⟩ := HP2.out.cons
        obtain ⟨g, cap2, rfl, hc1, hc2, hbg, hgl, c0, c1, c2, c3, f0, f3⟩ := hs2.open
        obtain ⟨m, hm⟩ : ∃ m, m = S'.length := ⟨_, rfl⟩
        obtain ⟨n1, hn1⟩ : ∃ n1, n1 = S'.length + 1 := ⟨_, rfl⟩
        rw [← hn1] at hc1 hs2 ⊢
        rw [← hm] at c0 c1 c2 c3 f0 f3
        have HM := Lib.hid hm
        have HN1 := Lib.hid hn1
        have hmn : m + 1 = n1 := by omega
        have hw : IntKind.i64.wrap ((n1 : Int) - 1) = (m : Int) := (IntWalk.i64_in _ (by unfold maxLen at hc2; omega)).trans (by omega)
        have hmn2 : (m : Int) < n1 := by omega
        have hm0 : (0 : Int) ≤ m := by omega
        have HMN := Lib.hid hmn
        have HS2 := Lib.hid hs2
        have HB2 := Lib.hid hb2
        clear hm hn1 hs2 hb2 hmn
        go_wp2_with fail
        refine (done_any o _).mono ?_
        rintro e wd ⟨rfl, hbd⟩
        have HS3 := Lib.hid (HS2.out.later hbd)
        have HB3 := Lib.hid (HB2.out.trans (hbd.mono HB2.out.size))
        obtain ⟨d0, d1, d2, d3⟩ := And.intro (cell_later hbd c0) (And.intro (cell_later hbd c1) (And.intro (cell_later hbd c2) (cell_later hbd c3)))
        have df0 := (hbd.frozen (p := ⟨g, _, none⟩) hgl).trans f0
        have df3 := (hbd.frozen (p := ⟨g, _, none⟩) hgl).trans f3
        have hgd := Nat.lt_of_lt_of_le hgl hbd.size
        clear hbd c0 c1 c2 c3 f0 f3 hgl
        by_cases h0 : o.left = 0
        · have hq : (o.left == 0) = true := by simp [h0]
          have H0 := Lib.hid h0
          clear d0 d1 d2 d3 df0 df3 h0
          go_wp2
          go_roundw
          case rel =>
            have h1 := HS3.out.pop HN1.out
            rw [← HM.out] at h1
            exact ⟨S', h1, HB3.out, Lib.hid (HP2.out.next H0.out)⟩
          case measure => simp [lenOf]; have := HMN.out; omega
        · have hq : (o.left == 0) = false := by simp [h0]
          have H0 := Lib.hid h0
          clear h0
          go_upto_region 8 with (fail)
          have hxd := (HB3.out.block _ (lt_of_block HX.out)).trans HX.out
          obtain ⟨x0, x1, x2, x3, x4⟩ := five_box hxd
          have HXd := Lib.hid hxd
          have HT2 := Lib.hid (show ∀ u2, Below wd.heap.size wd u2 → Calls Tryz.prog 42 #[opv o, twv t] u2 fun e w' => e = .returned (.bool (takesB o t)) ∧ Below wd.heap.size wd w' from fun u2 hu2 => (takes_any o t u2 (HS3.out.ok o (by simp)).2.2).mono fun e w' hh => ⟨hh.1, hu2.trans (hh.2.mono hu2.size)⟩)
          unfold opv twv at HT2
          clear hxd
          refine wp_region_held_drew (S := fun u2 => Below wd.heap.size wd u2) (by kernel_rfl) ((Below.refl _ _).drew) (fun hS => ?_)
          refine wpAnyH_take (i := 0) (oi := ⟨_, _, _, _, _, _⟩) (v := ?v1) rfl (by kernel_rfl) (by kernel_rfl) (by kernel_rfl) (fun _ _ _ h => h) ?y1 hS ?_
          case y1 => first | (refine Or.inr ⟨by rfl, ?_⟩; with_reducible rfl) | (refine Or.inl ⟨by rfl, ?_⟩; intro wS hSw; have s0 := cell_later hSw d0; have s1 := cell_later hSw d1; have s2 := cell_later hSw d2; have s3 := cell_later hSw d3; have y0 := cell_later hSw x0; have y1 := cell_later hSw x1; have y2 := cell_later hSw x2; have y3 := cell_later hSw x3; have y4 := cell_later hSw x4; go_simp; try with_reducible rfl)
          simp only [Act.put, List.setIfInBounds_toArray, List.set_cons_zero, List.set_cons_succ]
          refine wpAnyH_take (i := 1) (oi := ⟨_, _, _, _, _, _⟩) (v := ?v2) rfl (by kernel_rfl) (by kernel_rfl) (by kernel_rfl) (fun _ _ _ h => h) ?y2 hS ?_
          case y2 => first | (refine Or.inr ⟨by rfl, ?_⟩; with_reducible rfl) | (refine Or.inl ⟨by rfl, ?_⟩; intro wS hSw; have s0 := cell_later hSw d0; have s1 := cell_later hSw d1; have s2 := cell_later hSw d2; have s3 := cell_later hSw d3; have y0 := cell_later hSw x0; have y1 := cell_later hSw x1; have y2 := cell_later hSw x2; have y3 := cell_later hSw x3; have y4 := cell_later hSw x4; go_simp; try with_reducible rfl)
          simp only [Act.put, List.setIfInBounds_toArray, List.set_cons_zero, List.set_cons_succ]
          refine wpAnyH_take (i := 2) (oi := ⟨_, _, _, _, _, _⟩) (v := ?v3) rfl (by kernel_rfl) (by kernel_rfl) (by kernel_rfl) (fun _ _ _ h => h) ?y3 hS ?_
          case y3 => first | (refine Or.inr ⟨by rfl, ?_⟩; with_reducible rfl) | (refine Or.inl ⟨by rfl, ?_⟩; intro wS hSw; have s0 := cell_later hSw d0; have s1 := cell_later hSw d1; have s2 := cell_later hSw d2; have s3 := cell_later hSw d3; have y0 := cell_later hSw x0; have y1 := cell_later hSw x1; have y2 := cell_later hSw x2; have y3 := cell_later hSw x3; have y4 := cell_later hSw x4; go_simp; try with_reducible rfl)
          simp only [Act.put, List.setIfInBounds_toArray, List.set_cons_zero, List.set_cons_succ]
          refine wpAnyH_take (i := 3) (oi := ⟨_, _, _, _, _, _⟩) (v := ?v4) rfl (by kernel_rfl) (by kernel_rfl) (by kernel_rfl) (fun _ _ _ h => h) ?y4 hS ?_
          case y4 => first | (refine Or.inr ⟨by rfl, ?_⟩; with_reducible rfl) | (refine Or.inl ⟨by rfl, ?_⟩; intro wS hSw; have s0 := cell_later hSw d0; have s1 := cell_later hSw d1; have s2 := cell_later hSw d2; have s3 := cell_later hSw d3; have y0 := cell_later hSw x0; have y1 := cell_later hSw x1; have y2 := cell_later hSw x2; have y3 := cell_later hSw x3; have y4 := cell_later hSw x4; go_simp; try with_reducible rfl)
          simp only [Act.put, List.setIfInBounds_toArray, List.set_cons_zero, List.set_cons_succ]
          refine wpAnyH_ready (rs := [4]) (by kernel_rfl) (by simp) ?_
          refine AllReadyH.cons (o := ⟨_, _, _, _, _, _⟩) rfl (fun K hK => ?_) AllReadyH.nil
          go_simp
          refine (HT2.out _ hS).mono ?_
          rintro e wx ⟨rfl, hS⟩
          go_wp2_with fail
          refine hK.out _ _ hS (fun _ => ?_)
          clear hK K
          try simp only [Act.put, List.setIfInBounds_toArray, List.set_cons_zero, List.set_cons_succ]
          refine wpAnyH_take (i := 5) (oi := ⟨_, _, _, _, _, _⟩) (v := ?v5) rfl (by kernel_rfl) (by kernel_rfl) (by kernel_rfl) (fun _ _ _ h => h) ?y5 hS ?_
          case y5 => first | (refine Or.inr ⟨by rfl, ?_⟩; with_reducible rfl) | (refine Or.inl ⟨by rfl, ?_⟩; intro wS hSw; have s0 := cell_later hSw d0; have s1 := cell_later hSw d1; have s2 := cell_later hSw d2; have s3 := cell_later hSw d3; have y0 := cell_later hSw x0; have y1 := cell_later hSw x1; have y2 := cell_later hSw x2; have y3 := cell_later hSw x3; have y4 := cell_later hSw x4; go_simp; try with_reducible rfl)
          simp only [Act.put, List.setIfInBounds_toArray, List.set_cons_zero, List.set_cons_succ]
          refine wpAnyH_done (by kernel_rfl) ?_ _
          have HSx := Lib.hid (HS3.out.later hS)
          have HBx := Lib.hid (HB3.out.trans (hS.mono HB3.out.size))
          have c0 := cell_later hS d0
          have c1 := cell_later hS d1
          have c2 := cell_later hS d2
          have c3 := cell_later hS d3
          have f0 := (hS.frozen (p := ⟨g, _, none⟩) hgd).trans df0
          have f3 := (hS.frozen (p := ⟨g, _, none⟩) hgd).trans df3
          clear d0 d1 d2 d3 df0 df3 x0 x1 x2 x3 x4
          have hxx := (hS.block _ (lt_of_block HXd.out)).trans HXd.out
          obtain ⟨x0, x1, x2, x3, x4⟩ := five_box hxx
          have hgx : X ≠ g := fun e => by
            obtain ⟨cur, hg⟩ := HSx.out.blk
            rw [← e, hxx] at hg
            simp at hg
          have HXx := Lib.hid hxx
          have HGx := Lib.hid hgx
          clear hS hxx HT2
          cases htk : takesB o t
          · have HTk := Lib.hid htk
            clear htk
            go_wp2
            go_ret
            refine ⟨ret_bool ?_, HB1.out.trans (HBx.out.mono HB1.out.size)⟩
            rw [HI.out.res, ← goB_pops l (by rw [← HN.out]; exact hlt) S (o :: S') HP2.out.pop, goB_no l (by rw [← HN.out]; exact hlt) o S' H0.out (by rw [← HT.out]; exact HTk.out)]
          · have HTk := Lib.hid htk
            have hok := HSx.out.ok o (by simp)
            obtain ⟨ho1, ho2, -, -⟩ := hok
            have ho3 : 1 ≤ o.left := by have := H0.out; omega
            clear htk ho1
            go_upto_region 10 with (fail)
            go_region
            all_goals go_upto_region 11 with (fail)
            have hsX := HSx.out.set HN1.out (o.left - 1) t.to (by omega)
            rw [← HM.out] at hsX
            have hkX : Keeps (fun k => k = g) wx (((wx.setCell ⟨g, m * 4, none⟩ (.int .i64 (o.left - 1))).setCell ⟨g, m * 4 + 3, none⟩ (.int .i64 t.to)).drew) := ((((Keeps.refl (fun k => k = g) wx).setCell (p := ⟨g, m * 4, none⟩) rfl _).setCell (p := ⟨g, m * 4 + 3, none⟩) rfl _)).drew
            have hbgw : w.heap.size ≤ g := hbg
            refine gen_world (S := fun u2 => Keeps (fun k => k = g) wx u2 ∧ Stk w.heap.size u2 (.slice (some ⟨g, 0, none⟩) n1 cap2) (⟨o.left - 1, o.sf, o.st, t.to⟩ :: S')) ⟨hkX, hsX.keep (T := fun _ => False) ((Keeps.refl (fun _ => False) _).drew) (fun _ _ h => h)⟩ (fun u2 hu2 => ?_)
            obtain ⟨hk2, hs2⟩ := hu2
            have hx2 := hk2.obj HXx.out HGx.out
            have HB4 := Lib.hid (show Below w.heap.size w u2 from HB1.out.trans ((HBx.out.mono HB1.out.size).trans (hk2.below (Nat.le_trans HB1.out.size HBx.out.size) (fun k hk => by subst hk; exact hbgw))))
            clear c0 c1 c2 c3 f0 f3 x0 x1 x2 x3 x4 hsX hkX hk2
            obtain ⟨x0, x1, x2, x3, x4⟩ := five_box hx2
            have HX2 := Lib.hid hx2
            have HS4 := Lib.hid hs2
            have hown := hs2.own
            rw [show (⟨o.left - 1, o.sf, o.st, t.to⟩ :: S' : List Op).length = n1 from by simp [HN1.out]] at hown
            have hsz := HB4.out.size
            have hn1l : n1 ≤ 4000000 := by
              have h1 := HI.out.len
              have h2 := HP2.out.len
              have h3 := HN1.out
              simp at h2
              omega
            clear hx2 hs2
            go_wp2_with (at_builtin; refine wpList_append_own _ rfl (.tmp 55) (.tmp 64) 64 rfl w.heap.size 63 i0 _ 4 32 Tryz.underlying64 hi0 hz0 hz1 hz2 rfl (by decide) _ n1 _ rfl (hown.alloc _) ⟨u2.heap.size, 0, none⟩ 1 1 [.int .i64 t.kids, .int .i64 t.fr, .int .i64 t.to, .int .i64 t.fr] rfl rfl (World.news_of_block (cs := #[.int .i64 t.kids, .int .i64 t.fr, .int .i64 t.to, .int .i64 t.fr]) (t := 63) (fr := (0, 0)) (heap_alloc_new u2 _)) (by simp [Value.oneCell']) (by unfold maxLen; omega) (by omega) (by simp; omega) ?_; intro v' w1 hown' hgrow _)
            have hok : okT t := by
              have := HTk.out
              simp only [takesB, decide_eq_true_eq] at this
              exact this.1
            have HS5 := Lib.hid (show Stk w.heap.size w1 v' (⟨t.kids, t.fr, t.to, t.fr⟩ :: ⟨o.left - 1, o.sf, o.st, t.to⟩ :: S') from Stk.push (by simp [HN1.out]) hown' (by unfold okT at hok; unfold okO; simp only []; omega) HS4.out.ok)
            have HB5 := Lib.hid (show Below w.heap.size w w1 from HB4.out.trans (((Below.refl w.heap.size u2).alloc hsz _).grown hgrow (by simp; omega) (fun r hr => (hown.lt r hr).1)))
            have HI5 := Lib.hid (show RInv l n (k + 1) (⟨t.kids, t.fr, t.to, t.fr⟩ :: ⟨o.left - 1, o.sf, o.st, t.to⟩ :: S') from by
              have hkl : k < l.length := by rw [← HN.out]; exact hlt
              refine ⟨?_, ?_, by simp, by have h1 := HI.out.len; have h2 := HP2.out.len; simp at h2 ⊢; omega⟩
              · rw [HI.out.res, ← goB_pops l hkl S (o :: S') HP2.out.pop, goB_yes l hkl o S' H0.out (by rw [← HT.out]; exact HTk.out), ← HT.out]
              · have h1 := HI.out.bot
                rw [← HP2.out.bot] at h1
                cases S' with
                | nil => simp only [botS] at h1 ⊢; omega
                | cons o2 S' => simp only [botS] at h1 ⊢; omega)
            clear hown' hgrow hown hok x0 x1 x2 x3 x4
            go_wp2
            go_roundw
            case rel => exact ⟨k + 1, _, by omega, by go_num, HS5.out, HB5.out, HI5⟩
            case measure => simp [intOf]; omega
    · have hkn : k = n := by omega
      have hlt2 : ¬ (k : Int) < n := by omega
      obtain ⟨o, S', rfl⟩ : ∃ o S', S = o :: S' := by
        cases S with
        | nil => exact absurd rfl HI.out.ne
        | cons o S' => exact ⟨o, S', rfl⟩
      obtain ⟨g, cap2, rfl, hc1, hc2, -⟩ := hs.open
      obtain ⟨n1, hn1⟩ : ∃ n1, n1 = S'.length + 1 := ⟨_, rfl⟩
      rw [← hn1] at hc1 hs ⊢
      have HN1 := Lib.hid hn1
      have hn2 : 1 ≤ n1 := by omega
      have HR := Lib.hid (show rightB l = restB (o :: S') from by rw [HI.out.res, hkn, HN.out, goB_end l _ (by simp)])
      have HB := Lib.hid hbel
      have HS := Lib.hid hs
      unfold maxLen at hc2
      clear hkn hbel hs hn1
      by_cases hc5 : cap2 = 1
      · have hn3 : n1 = 1 := by omega
        subst hc5
        subst hn3
        have HCt := Lib.hid (containsf_any (.slice (some ⟨g, 0, none⟩) 0 0) _ wr (HS.out.tail HN1.out 0 0 (.inl (by have := HN1.out; omega)) ⟨by omega, by unfold maxLen; omega⟩))
        go_wp2_with fail
        refine HCt.out.mono ?_
        rintro e wd ⟨rfl, hbd⟩
        go_wp2
        go_ret
        exact ⟨ret_bool (by rw [HR.out]; simp [restB]), HB.out.trans (hbd.mono HB.out.size)⟩
      · have hn3 : (1 : Int) < cap2 := by omega
        have HCt := Lib.hid (containsf_any (.slice (some ⟨g, 4, none⟩) (n1 - 1) (cap2 - 1)) _ wr (HS.out.tail HN1.out 4 (cap2 - 1) (.inr rfl) ⟨by omega, by unfold maxLen; omega⟩))
        go_wp2_with fail
        refine HCt.out.mono ?_
        rintro e wd ⟨rfl, hbd⟩
        go_wp2
        go_ret
        exact ⟨ret_bool (by rw [HR.out]; simp [restB]), HB.out.trans (hbd.mono HB.out.size)⟩
end Go.Proofs.YtadkjjpopmiceaaGreat
namespace Go.Proofs.YtadkjjpopmiceaaGreat
open Go.RowKit Go.Lib

theorem For.kid_len {l : List Tw} {lo hi a : Int} {n e : Nat} {rs : List Nat} (h : For l lo hi a n e rs) {i : Nat} (h1 : n ≤ i) (h2 : i < e) : 0 ≤ (atT l i).kids ∧ (atT l i).kids ≤ l.length := by
  obtain ⟨m, ks, hs, -⟩ := h.sub i h1 h2
  have hl := hs.lt
  have := hs.2.2.2.len_le
  have := hs.2.2.1
  omega
theorem sm_ge (l : List Tw) (a : Nat) : ∀ j, (∀ i, a ≤ i → i < a + j → 0 ≤ (atT l i).kids) → - (j : Int) ≤ sm l a j
  | 0, _ => by simp [sm]
  | j + 1, h => by
    have := sm_ge l a j (fun i h1 h2 => h i h1 (by omega))
    have := h (a + j) (by omega) (by omega)
    simp only [sm]
    omega
theorem Sub.left {l : List Tw} {n m : Nat} {ks : List Nat} (h : Sub l n m ks) {i : Nat} (hi : i ≤ m - n) : 0 ≤ 1 + sm l n i ∧ 1 + sm l n i ≤ l.length ∧ (i < m - n → 0 < 1 + sm l n i) ∧ (i < m - n → 0 ≤ (atT l (n + i)).kids ∧ (atT l (n + i)).kids ≤ l.length) := by
  obtain ⟨h1, h2⟩ := h.sum
  have hlt := h.lt
  obtain ⟨a1, a2, a3, a4⟩ := h
  have hF : For l (atT l n).fr (atT l n).to (atT l n).fr n m [n] := .cons a1 a2 (by simp) (by simp) (by simp) a4 a3 .nil
  have hg := sm_ge l (n + i) (m - n - i) (fun j j1 j2 => (hF.kid_len (i := j) (by omega) (by omega)).1)
  have hadd := sm_add l n i (m - n - i)
  rw [show i + (m - n - i) = m - n from by omega] at hadd
  refine ⟨?_, by omega, fun h => h2 i h, fun h => hF.kid_len (by omega) (by omega)⟩
  by_cases he : i = m - n
  · rw [he]; omega
  · have := h2 i (by omega); omega
set_option maxHeartbeats 1000000 in
theorem after_any {l : List Tw} {n m : Nat} {ks : List Nat} (v : Value) (w : World) (h : TwAt w v l) (hs : Sub l n m ks) (hl : l.length ≤ 1000000) :
    Calls Tryz.prog 50 #[v, .int .i64 n] w fun e w' => e = .returned (.int .i64 m) ∧ w = w' := by
  have H := Lib.hid h
  obtain ⟨ao, cap, rfl⟩ := h.val
  obtain ⟨len, hlen⟩ : ∃ len, len = l.length := ⟨_, rfl⟩
  have HLe := Lib.hid hlen
  rw [← hlen] at hl H ⊢
  have HS := Lib.hid hs
  have hm := hs.lt
  obtain ⟨hnm, hml⟩ := hm
  rw [← hlen] at hml
  clear h hs hlen
  go_enter Tryz.func50, Tryz.ntmps50
  go_wp2
  go_loop [1, 5] (fun a b => ∃ i : Nat, i ≤ m - n ∧ a = .int .i64 ((n + i : Nat) : Int) ∧ b = .int .i64 (1 + sm l n i)) (fun a _ => m - (intOf a).toNat)
  case atStart => exact ⟨0, by omega, rfl, rfl⟩
  case round =>
    obtain ⟨i, hi, rfl, rfl⟩ := hrel
    obtain ⟨h1, h2, h3, h4⟩ := HS.out.left hi
    rw [← HLe.out] at h2 h4
    obtain ⟨lf, hlf⟩ : ∃ lf, lf = 1 + sm l n i := ⟨_, rfl⟩
    obtain ⟨p, hp⟩ : ∃ p, p = n + i := ⟨_, rfl⟩
    rw [← hlf] at h1 h2 h3 ⊢
    rw [← hp] at h4 ⊢
    by_cases hlt : i < m - n
    · have g3 := h3 hlt
      obtain ⟨g4, g5⟩ := h4 hlt
      obtain ⟨b, off, rfl, -, -, -, -, -, e4⟩ := H.out.cells.2.2.2.2 p (by rw [← HLe.out]; omega)
      obtain ⟨kk, hkk⟩ : ∃ kk, kk = (atT l p).kids := ⟨_, rfl⟩
      rw [← atT_get l (by rw [← HLe.out]; omega), ← hkk] at e4
      rw [← hkk] at g4 g5
      have hp2 : (p : Int) < len := by omega
      have HLf := Lib.hid hlf
      have HP := Lib.hid hp
      have HK := Lib.hid hkk
      clear h3 h4 hlf hkk
      have hpl : p ≤ 1000000 := by omega
      clear hp
      go_wp2
      go_round
      case rel => exact ⟨i + 1, by omega, by rw [HP.out]; go_num, by rw [show (1 + sm l n (i + 1) : Int) = lf + (kk - 1) from by rw [HLf.out, HK.out, HP.out]; simp only [sm]; omega]⟩
      case measure => have := HP.out; simp [intOf]; omega
    · have hlf0 : lf = 0 := by
        have := HS.out.sum.1
        rw [hlf, show i = m - n from by omega]
        exact this
      have hpm : p = m := by omega
      subst hlf0
      clear hlf
      go_wp2
      go_ret
      exact ⟨ret_int' (by omega), rfl⟩
theorem Tryz.infoInt : (Tryz.prog.info? 3).map (fun i => (i.zero, i.size, i.bytes)) = some (some (.int .i64 0), 1, 8) := by kernel_rfl
abbrev nats (l : List Nat) : List Value := l.map fun i : Nat => .int .i64 (i : Int)
theorem nats_one (l : List Nat) : ∀ u ∈ nats l, u.oneCell' = true := by intro u hu; obtain ⟨x, -, rfl⟩ := List.mem_map.1 hu; rfl
/-- a row of numbers of the call's own. -/
def OwnN (base : Nat) (w : World) (v : Value) (l : List Nat) : Prop := w.ownsRow base 3 1 v l.length (nats l)
/-- trees that stand behind one another: what is left of them. -/
theorem For.split {l : List Tw} {lo hi a : Int} {n e : Nat} {rs : List Nat} (h : For l lo hi a n e rs) (hn : n < e) : ∃ m ks rs', rs = n :: rs' ∧ Sub l n m ks ∧ For l lo hi (atT l n).to m e rs' := by
  cases h with
  | nil => omega
  | @cons lo hi a n m e ks rs h0 hk hlo hhi ha h3 h5 h4 => exact ⟨m, ks, rs, rfl, ⟨h0, hk, h5, h3⟩, h4⟩
set_option maxRecDepth 100000 in
set_option maxHeartbeats 1000000 in
theorem some_any {l : List Tw} {lo hi a : Int} {n e : Nat} {rs : List Nat} (v : Value) (w : World) (h : TwAt w v l) (hF : For l lo hi a n e rs) (hl : l.length ≤ 1000000) (hel : e ≤ l.length) :
    Calls Tryz.prog 79 #[v, .int .i64 n, .int .i64 e] w fun en w' => ∃ v', en = .returned v' ∧ OwnN w.heap.size w' v' rs ∧ Below w.heap.size w w' := by
  have H := Lib.hid h
  obtain ⟨ao, cap, rfl⟩ := h.val
  obtain ⟨len, hlen⟩ : ∃ len, len = l.length := ⟨_, rfl⟩
  have HLe := Lib.hid hlen
  rw [← hlen] at hl hel H ⊢
  have HF := Lib.hid hF
  have hne := hF.le
  obtain ⟨i0, hi0, hz0, hz1, hz2⟩ := info_parts Tryz.infoInt
  clear h hF hlen
  go_enter Tryz.func79, Tryz.ntmps79
  go_wp2
  go_loopw [1, 6] (fun p v wr => ∃ (i : Nat) (done rest : List Nat), i ≤ e ∧ p = .int .i64 i ∧ OwnN w.heap.size wr v done ∧ Below w.heap.size w wr ∧ Hid (done ++ rest = rs) ∧ Hid (∃ a', For l lo hi a' i e rest) ∧ done.length ≤ i) (fun p _ _ => e - (intOf p).toNat)
  case atStart => exact ⟨n, [], rs, hne, rfl, World.ownsRow_nil _ _ _ _, Below.refl _ _, Lib.hid rfl, Lib.hid ⟨a, HF.out⟩, Nat.zero_le _⟩
  case round =>
    obtain ⟨i, done, rest, hie, rfl, hown, hbel, HR, HI, hdl⟩ := hrel
    by_cases hlt : i < e
    · have hlt2 : (i : Int) < e := by omega
      obtain ⟨a', hI⟩ := HI.out
      obtain ⟨m, ks, rest', hr', hs, hF'⟩ := hI.split hlt
      have HS := Lib.hid hs
      have HF' := Lib.hid hF'
      have HR' := Lib.hid hr'
      have hm1 := hs.lt.1
      have hm2 := hF'.le
      have hsz := hbel.size
      have hdl2 : done.length ≤ 1000000 := by omega
      have HOwn := Lib.hid hown
      unfold OwnN at hown
      obtain ⟨dl, hdlv⟩ : ∃ dl, dl = done.length := ⟨_, rfl⟩
      rw [← hdlv] at hown hdl hdl2
      have HDl := Lib.hid hdlv
      have HB := Lib.hid hbel
      clear hI hs hF' hr' hdlv hbel
      go_wp2_with (at_builtin; refine wpList_append_own _ rfl (.tmp 10) (.tmp 12) 27 rfl w.heap.size 3 i0 _ 1 8 Tryz.underlying27 hi0 hz0 hz1 hz2 rfl (by decide) _ dl _ rfl (hown.alloc _) ⟨wr.heap.size, 0, none⟩ 1 1 [.int .i64 i] rfl rfl (World.news_of_block (cs := #[.int .i64 i]) (t := 3) (fr := (0, 0)) (heap_alloc_new wr _)) (by simp [Value.oneCell']) (by unfold maxLen; omega) (by omega) (by simp; omega) ?_; intro v' w1 hown' hgrow _)
      have HB1 := Lib.hid (HB.out.trans (((Below.refl w.heap.size wr).alloc hsz _).grown hgrow (by simp; omega) (fun r hr => (HOwn.out.lt r hr).1)))
      have HO1 := Lib.hid hown'
      have HA := Lib.hid (after_any _ w1 ((H.out.later HB1.out)) HS.out (by rw [← HLe.out]; exact hl))
      clear hown' hgrow hown
      refine HA.out.mono ?_
      rintro en w2 ⟨rfl, rfl⟩
      go_wp2
      go_roundw
      case rel => exact ⟨m, done ++ [i], rest', hm2, rfl, by
        have := HO1.out
        unfold OwnN
        simp only [List.map_append, List.length_append, List.map_cons, List.map_nil, List.length_singleton]
        rw [← HDl.out]
        exact this, HB1.out, Lib.hid (by rw [← HR.out, HR'.out]; simp), Lib.hid ⟨_, HF'.out⟩, by have := HDl.out; simp; omega⟩
      case measure => simp [intOf]; omega
    · have hlt2 : ¬ (i : Int) < e := by omega
      have hre : rest = [] := by
        obtain ⟨a', hI⟩ := HI.out
        cases hI with
        | nil => rfl
        | cons h0 _ _ _ _ h3 _ h4 =>
          have := h3.le
          have := h4.le
          omega
      have HRe := Lib.hid hre
      clear hre
      go_wp2
      go_ret
      refine ⟨_, rfl, ?_, hbel⟩
      have := HR.out
      rw [HRe.out, List.append_nil] at this
      rw [← this]
      exact hown
end Go.Proofs.YtadkjjpopmiceaaGreat
namespace Go.Proofs.YtadkjjpopmiceaaGreat
open Go.RowKit Go.Lib

def topR (l : List Tw) : List Nat := if rightB l = true then (rootsL l l.length 0).getD [] else []
def hasR (l : List Tw) (n : Int) : Bool := decide (0 ≤ n ∧ n < l.length) && rightB l
def kidR (l : List Tw) (n : Nat) : List Nat := (rowL l (atT l n).kids.toNat (n + 1)).getD []
def kidsR (l : List Tw) (n : Int) : List Nat := if hasR l n = true then kidR l n.toNat else []
def sizR (l : List Tw) (n : Int) : Nat := if hasR l n = true then aN l n.toNat - n.toNat else 0
def parF (l : List Tw) (n : Nat) : Option Nat := (List.range n).reverse.find? fun p => decide (n < aN l p)
def parV (l : List Tw) (n : Int) : Value := if hasR l n = true then (match parF l n.toNat with
  | some p => .tuple #[.int .i64 (p : Int), .bool true]
  | none => .tuple #[.int .i64 0, .bool false]) else .tuple #[.int .i64 0, .bool false]
def heiR (l : List Tw) : Nat := if rightB l = true then mxd l 0 l.length else 0
def pathR (l : List Tw) (pl : Int) : List Nat := if rightB l = true then onP l pl 0 l.length else []
theorem topR_of {l : List Tw} {lo hi a : Int} {rs : List Nat} (h : rightB l = true) (hF : For l lo hi a 0 l.length rs) : topR l = rs := by
  unfold topR
  rw [if_pos h, hF.rootsL rfl _ (by have := hF.len_le; omega)]
  rfl
theorem kidR_of {l : List Tw} {n m : Nat} {ks : List Nat} (h : Sub l n m ks) : kidR l n = ks := by
  unfold kidR
  obtain ⟨h1, h2, h3, h4⟩ := h
  rw [show (atT l n).kids.toNat = ks.length from by omega, h4.rowL]
  rfl
theorem RightP.sub {l : List Tw} (h : RightP l) {n : Nat} (hn : n < l.length) : ∃ m ks, Sub l n m ks := by
  obtain ⟨rs, h⟩ := h
  obtain ⟨m, ks, hs, -⟩ := h.sub n (Nat.zero_le _) hn
  exact ⟨m, ks, hs⟩
theorem parF_some {l : List Tw} {n p : Nat} (hp : p < n) (h : n < aN l p) (hq : ∀ q, p < q → q < n → aN l q ≤ n) : parF l n = some p := by
  unfold parF
  induction n with
  | zero => omega
  | succ n ih =>
    clear ih
    have key : ∀ k, p < k → k ≤ n + 1 → (List.range k).reverse.find? (fun p => decide (n + 1 < aN l p)) = some p := fun k => by
      induction k with
      | zero => intro h; omega
      | succ k ih =>
        intro h1 h2
        rw [List.range_succ, List.reverse_append, List.reverse_singleton, List.singleton_append, List.find?_cons]
        by_cases hk : k = p
        · subst hk; simp [h]
        · have := hq k (by omega) (by omega)
          simp only [show ¬ n + 1 < aN l k by omega, decide_false]
          exact ih (by omega) (by omega)
    exact key (n + 1) hp (Nat.le_refl _)
theorem parF_none {l : List Tw} {n : Nat} (hq : ∀ q, q < n → aN l q ≤ n) : parF l n = none := by
  unfold parF
  rw [List.find?_eq_none]
  intro x hx
  have := hq x (by simpa using hx)
  simp
  omega
theorem ret_v {a b : Value} (h : a = b) : Ending.returned a = .returned b := by rw [h]
/-- numbers told in memory of their own. -/
def Told (w : World) (l : List Nat) (en : Ending) (w' : World) : Prop := ∃ v', en = .returned v' ∧ OwnN w.heap.size w' v' l ∧ Below w.heap.size w w'
theorem OwnN.lift {B C : Nat} {w : World} {v : Value} {l : List Nat} (h : OwnN B w v l) (hB : C ≤ B) : OwnN C w v l := ownsRow_base h hB
theorem OwnN.later {B : Nat} {w w' : World} {v : Value} {l : List Nat} (h : OwnN B w v l) (hb : Below w.heap.size w w') : OwnN B w' v l := (Keeps.ofNew hb (fun _ => False)).row h (fun _ _ h => h)
theorem Told.from {w w1 : World} {l : List Nat} {en : Ending} {w' : World} (h : Told w1 l en w') (hb : Below w.heap.size w w1) : Told w l en w' := by
  obtain ⟨v', h1, h2, h3⟩ := h
  exact ⟨v', h1, h2.lift hb.size, hb.trans (h3.mono hb.size)⟩
set_option maxHeartbeats 1000000 in
theorem roots_any {l : List Tw} {lo hi a : Int} {rs : List Nat} (v : Value) (w : World) (h : TwAt w v l) (hF : For l lo hi a 0 l.length rs) (hl : l.length ≤ 1000000) :
    Calls Tryz.prog 52 #[v] w fun en w' => Told w rs en w' := by
  have HS := Lib.hid (some_any v w h hF hl (Nat.le_refl _))
  obtain ⟨ao, cap, rfl⟩ := h.val
  obtain ⟨len, hlen⟩ : ∃ len, len = l.length := ⟨_, rfl⟩
  rw [← hlen] at HS ⊢
  clear h hF hl hlen
  go_enter Tryz.func52, Tryz.ntmps52
  go_wp2_with fail
  refine HS.out.mono ?_
  rintro en w' ⟨v', rfl, h1, h2⟩
  obtain ⟨vo, vc, rfl⟩ := own_val h1
  have HR := Lib.hid (show Told w rs (.returned (.slice vo rs.length vc)) w' from ⟨_, rfl, h1, h2⟩)
  clear h1 h2 HS
  go_wp2
  go_ret
  exact HR.out
set_option maxHeartbeats 1000000 in
theorem kids_any {l : List Tw} {n m : Nat} {ks : List Nat} (v : Value) (w : World) (h : TwAt w v l) (hs : Sub l n m ks) (hl : l.length ≤ 1000000) :
    Calls Tryz.prog 55 #[v, .int .i64 n] w fun en w' => Told w ks en w' := by
  have HA := Lib.hid (after_any v w h hs hl)
  have HS := Lib.hid (some_any v w h hs.2.2.2 hl hs.lt.2)
  have hn := hs.lt
  obtain ⟨ao, cap, rfl⟩ := h.val
  obtain ⟨len, hlen⟩ : ∃ len, len = l.length := ⟨_, rfl⟩
  rw [← hlen] at HA HS hn hl ⊢
  rw [show ((n + 1 : Nat) : Int) = (n : Int) + 1 from rfl] at HS
  clear h hs hlen
  go_enter Tryz.func55, Tryz.ntmps55
  go_wp2_with fail
  refine HA.out.mono ?_
  rintro en w1 ⟨rfl, rfl⟩
  go_wp2_with fail
  refine HS.out.mono ?_
  rintro en w' ⟨v', rfl, h1, h2⟩
  obtain ⟨vo, vc, rfl⟩ := own_val h1
  have HR := Lib.hid (show Told w ks (.returned (.slice vo ks.length vc)) w' from ⟨_, rfl, h1, h2⟩)
  clear h1 h2 HS
  go_wp2
  go_ret
  exact HR.out
/-- a row of twigs that is lent: its numbers fit. -/
structure TwRow (w : World) (v : Value) (l : List Tw) : Prop where
  at' : TwAt w v l
  ok : ∀ t ∈ l, twOk t
  len : l.length ≤ 1000000
theorem TwRow.later {w w' : World} {v : Value} {l : List Tw} (h : TwRow w v l) (hb : Below w.heap.size w w') : TwRow w' v l := ⟨h.at'.later hb, h.ok, h.len⟩
set_option maxHeartbeats 1000000 in
theorem has_any {l : List Tw} (v : Value) (n : Int) (w : World) (h : TwRow w v l) :
    Calls Tryz.prog 57 #[v, .int .i64 n] w fun en w' => en = .returned (.bool (hasR l n)) ∧ Below w.heap.size w w' := by
  have HR := Lib.hid (right_any v l w h.at' h.ok h.len)
  obtain ⟨ao, cap, rfl⟩ := h.at'.val
  have hl := h.len
  obtain ⟨len, hlen⟩ : ∃ len, len = l.length := ⟨_, rfl⟩
  rw [← hlen] at HR hl ⊢
  have HLe := Lib.hid hlen
  clear h hlen
  by_cases h0 : 0 ≤ n
  · by_cases h1 : n < len
    · go_enter Tryz.func57, Tryz.ntmps57
      go_wp2_with fail
      refine HR.out.mono ?_
      rintro en w1 ⟨rfl, hb⟩
      go_wp2
      go_ret
      exact ⟨ret_bool (by have := HLe.out; simp [hasR]; intro _; omega), hb⟩
    · have hd : decide (n < (len : Int)) = false := by simpa using h1
      go_enter Tryz.func57, Tryz.ntmps57
      go_wp2
      go_ret
      exact ⟨ret_bool (by have := HLe.out; simp [hasR]; omega), Below.refl _ _⟩
  · go_enter Tryz.func57, Tryz.ntmps57
    go_wp2
    go_ret
    exact ⟨ret_bool (by simp [hasR]; omega), Below.refl _ _⟩
theorem hasR_yes {l : List Tw} {n : Int} (h : hasR l n = true) : ∃ k : Nat, n = k ∧ k < l.length ∧ RightP l ∧ rightB l = true := by
  simp [hasR] at h
  exact ⟨n.toNat, by omega, by omega, (rightB_iff l).1 h.2, h.2⟩
set_option maxHeartbeats 1000000 in
theorem tRoots_any {l : List Tw} (v : Value) (w : World) (h : TwRow w v l) :
    Calls Tryz.prog 11 #[v] w fun en w' => Told w (topR l) en w' := by
  have HR := Lib.hid (right_any v l w h.at' h.ok h.len)
  have H := Lib.hid h
  obtain ⟨ao, cap, rfl⟩ := h.at'.val
  obtain ⟨len, hlen⟩ : ∃ len, len = l.length := ⟨_, rfl⟩
  rw [← hlen] at HR H ⊢
  have HLe := Lib.hid hlen
  clear h hlen
  cases hr : rightB l
  · have HN := Lib.hid (show topR l = [] from by unfold topR; rw [hr]; rfl)
    rw [hr] at HR
    clear hr
    go_enter Tryz.func11, Tryz.ntmps11
    go_wp2_with fail
    refine HR.out.mono ?_
    rintro en w1 ⟨rfl, hb⟩
    go_wp2
    go_ret
    rw [HN.out]
    exact ⟨_, rfl, World.ownsRow_nil _ _ _ _, hb⟩
  · obtain ⟨rs, hF⟩ := (rightB_iff l).1 hr
    have HN := Lib.hid (topR_of hr hF)
    have HF := Lib.hid hF
    rw [hr] at HR
    clear hr hF
    go_enter Tryz.func11, Tryz.ntmps11
    go_wp2_with fail
    refine HR.out.mono ?_
    rintro en w1 ⟨rfl, hb⟩
    have HRt := Lib.hid (roots_any _ w1 (H.out.later hb).at' HF.out H.out.len)
    have HB := Lib.hid hb
    clear hb
    go_wp2_with fail
    refine HRt.out.mono ?_
    rintro en w' hT
    obtain ⟨v', rfl, h1, h2⟩ := hT.from HB.out
    obtain ⟨vo, vc, rfl⟩ := own_val h1
    have HT := Lib.hid (show Told w (topR l) (.returned (.slice vo rs.length vc)) w' from by rw [HN.out]; exact ⟨_, rfl, h1, h2⟩)
    clear h1 h2 hT HRt
    go_wp2
    go_ret
    exact HT.out
set_option maxHeartbeats 1000000 in
theorem tKids_any {l : List Tw} (v : Value) (n : Int) (w : World) (h : TwRow w v l) :
    Calls Tryz.prog 14 #[v, .int .i64 n] w fun en w' => Told w (kidsR l n) en w' := by
  have HR := Lib.hid (has_any v n w h)
  have H := Lib.hid h
  obtain ⟨ao, cap, rfl⟩ := h.at'.val
  obtain ⟨len, hlen⟩ : ∃ len, len = l.length := ⟨_, rfl⟩
  rw [← hlen] at HR H ⊢
  have HLe := Lib.hid hlen
  clear h hlen
  cases hr : hasR l n
  · have HN := Lib.hid (show kidsR l n = [] from by unfold kidsR; rw [hr]; rfl)
    rw [hr] at HR
    clear hr
    go_enter Tryz.func14, Tryz.ntmps14
    go_wp2_with fail
    refine HR.out.mono ?_
    rintro en w1 ⟨rfl, hb⟩
    go_wp2
    go_ret
    rw [HN.out]
    exact ⟨_, rfl, World.ownsRow_nil _ _ _ _, hb⟩
  · obtain ⟨k, rfl, hk, hP, -⟩ := hasR_yes hr
    obtain ⟨m, ks, hs⟩ := hP.sub hk
    have HN := Lib.hid (show kidsR l k = ks from by unfold kidsR; rw [if_pos hr, Int.toNat_natCast]; exact kidR_of hs)
    have HS := Lib.hid hs
    rw [hr] at HR
    clear hr hs hP hk
    go_enter Tryz.func14, Tryz.ntmps14
    go_wp2_with fail
    refine HR.out.mono ?_
    rintro en w1 ⟨rfl, hb⟩
    have HRt := Lib.hid (kids_any _ w1 (H.out.later hb).at' HS.out H.out.len)
    have HB := Lib.hid hb
    clear hb
    go_wp2_with fail
    refine HRt.out.mono ?_
    rintro en w' hT
    obtain ⟨v', rfl, h1, h2⟩ := hT.from HB.out
    obtain ⟨vo, vc, rfl⟩ := own_val h1
    have HT := Lib.hid (show Told w (kidsR l k) (.returned (.slice vo ks.length vc)) w' from by rw [HN.out]; exact ⟨_, rfl, h1, h2⟩)
    clear h1 h2 hT HRt
    go_wp2
    go_ret
    exact HT.out
set_option maxHeartbeats 1000000 in
theorem tSize_any {l : List Tw} (v : Value) (n : Int) (w : World) (h : TwRow w v l) :
    Calls Tryz.prog 25 #[v, .int .i64 n] w fun en w' => en = .returned (.int .i64 (sizR l n)) ∧ Below w.heap.size w w' := by
  have HR := Lib.hid (has_any v n w h)
  have H := Lib.hid h
  obtain ⟨ao, cap, rfl⟩ := h.at'.val
  obtain ⟨len, hlen⟩ : ∃ len, len = l.length := ⟨_, rfl⟩
  rw [← hlen] at HR H ⊢
  have HLe := Lib.hid hlen
  clear h hlen
  cases hr : hasR l n
  · have HN := Lib.hid (show sizR l n = 0 from by unfold sizR; rw [hr]; rfl)
    rw [hr] at HR
    clear hr
    go_enter Tryz.func25, Tryz.ntmps25
    go_wp2_with fail
    refine HR.out.mono ?_
    rintro en w1 ⟨rfl, hb⟩
    go_wp2
    go_ret
    exact ⟨ret_int' (by rw [HN.out]; rfl), hb⟩
  · obtain ⟨k, rfl, hk, hP, -⟩ := hasR_yes hr
    obtain ⟨m, ks, hs⟩ := hP.sub hk
    have hkm := hs.lt
    have HN := Lib.hid (show (sizR l k : Int) = (m : Int) - k from by unfold sizR; rw [if_pos hr, Int.toNat_natCast, hs.aN]; omega)
    have HS := Lib.hid hs
    have hm1 : m ≤ 1000000 := by have := H.out.len; omega
    rw [hr] at HR
    clear hr hs hP hk
    go_enter Tryz.func25, Tryz.ntmps25
    go_wp2_with fail
    refine HR.out.mono ?_
    rintro en w1 ⟨rfl, hb⟩
    have HA := Lib.hid (after_any _ w1 (H.out.later hb).at' HS.out H.out.len)
    have HB := Lib.hid hb
    clear hb
    go_wp2_with fail
    refine HA.out.mono ?_
    rintro en w' ⟨rfl, rfl⟩
    go_wp2
    go_ret
    exact ⟨ret_int' HN.out.symm, HB.out⟩
set_option maxHeartbeats 1000000 in
theorem tParent_any {l : List Tw} (v : Value) (n : Int) (w : World) (h : TwRow w v l) :
    Calls Tryz.prog 21 #[v, .int .i64 n] w fun en w' => en = .returned (parV l n) ∧ Below w.heap.size w w' := by
  have HR := Lib.hid (has_any v n w h)
  have H := Lib.hid h
  obtain ⟨ao, cap, rfl⟩ := h.at'.val
  obtain ⟨len, hlen⟩ : ∃ len, len = l.length := ⟨_, rfl⟩
  rw [← hlen] at HR H ⊢
  have HLe := Lib.hid hlen
  clear h hlen
  cases hr : hasR l n
  · have HN := Lib.hid (show parV l n = .tuple #[.int .i64 0, .bool false] from by unfold parV; rw [hr]; rfl)
    rw [hr] at HR
    clear hr
    go_enter Tryz.func21, Tryz.ntmps21
    go_wp2_with fail
    refine HR.out.mono ?_
    rintro en w1 ⟨rfl, hb⟩
    go_wp2
    go_ret2
    exact ⟨ret_v HN.out.symm, hb⟩
  · obtain ⟨k, rfl, hk, hP, -⟩ := hasR_yes hr
    have HN := Lib.hid (show parV l k = (match parF l k with
      | some p => .tuple #[.int .i64 (p : Int), .bool true]
      | none => .tuple #[.int .i64 0, .bool false]) from by unfold parV; rw [if_pos hr, Int.toNat_natCast])
    have HP := Lib.hid hP
    rw [← HLe.out] at hk
    have hl := H.out.len
    rw [← HLe.out] at hl
    rw [hr] at HR
    clear hr hP
    go_enter Tryz.func21, Tryz.ntmps21
    go_wp2_with fail
    refine HR.out.mono ?_
    rintro en w1 ⟨rfl, hb⟩
    have HB := Lib.hid hb
    have H1 := Lib.hid (H.out.later hb)
    clear hb
    go_wp2
    go_loop [6] (fun p => ∃ j : Nat, j ≤ k ∧ p = .int .i64 ((j : Int) - 1) ∧ Hid (∀ q, j ≤ q → q < k → aN l q ≤ k)) (fun p => (intOf p + 1).toNat)
    case atStart => exact ⟨k, Nat.le_refl _, rfl, Lib.hid (fun q h1 h2 => by omega)⟩
    case round =>
      obtain ⟨j, hj, rfl, HQ⟩ := hrel
      cases j with
      | zero =>
        go_wp2
        go_ret2
        exact ⟨ret_v (by rw [HN.out, parF_none (fun q hq => HQ.out q (Nat.zero_le _) hq)]; rfl), HB.out⟩
      | succ p =>
        obtain ⟨m, ks, hs⟩ := HP.out.sub (n := p) (by rw [← HLe.out]; omega)
        have HS := Lib.hid hs
        have hA := Lib.hid hs.aN
        have hm : m ≤ 1000000 := by have := hs.lt; have := HLe.out; omega
        have HA := Lib.hid (after_any _ w1 H1.out.at' hs H.out.len)
        rw [show ((p + 1 : Nat) : Int) - 1 = (p : Int) from by omega]
        clear hs
        go_wp2_with fail
        refine HA.out.mono ?_
        rintro en w' ⟨rfl, rfl⟩
        by_cases hc : k < m
        · have hc2 : (m : Int) > k := by omega
          go_wp2
          go_ret2
          exact ⟨ret_v (by rw [HN.out, parF_some (p := p) (by omega) (by rw [hA.out]; exact hc) (fun q h1 h2 => HQ.out q (by omega) h2)]; rfl), HB.out⟩
        · have hc2 : ¬ (m : Int) > k := by omega
          go_wp2
          go_round
          case rel => exact ⟨p, by omega, rfl, Lib.hid (fun q h1 h2 => by
            by_cases hq : q = p
            · subst hq; rw [hA.out]; omega
            · exact HQ.out q (by omega) h2)⟩
          case measure => simp [intOf] <;> omega
end Go.Proofs.YtadkjjpopmiceaaGreat
