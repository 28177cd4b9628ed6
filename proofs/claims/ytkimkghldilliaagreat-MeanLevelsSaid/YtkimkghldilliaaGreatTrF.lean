/-
  tree.Right: the walk.
-/
import Derived.Test.YtkimkghldilliaaGreatTrG
namespace Go.Proofs.YtkimkghldilliaaGreat
open Go.RowKit Go.Lib

structure RInv (l : List Tw) (n k : Nat) (S : List Op) : Prop where
  res : rightB l = goB l k S
  bot : (n : Int) - k ≤ botS S
  ne : S ≠ []
  len : S.length ≤ k + 1
structure PInv (S S2 : List Op) : Prop where
  pop : pops S2 = pops S
  bot : botS S2 = botS S
  nep : pops S ≠ []
  len : S2.length ≤ S.length
theorem PInv.cons {S S2 : List Op} (h : PInv S S2) : ∃ o S', S2 = o :: S' := by
  cases S2 with
  | nil => exact absurd h.pop.symm h.nep
  | cons o S' => exact ⟨o, S', rfl⟩
theorem PInv.next {S S' : List Op} {o : Op} (h : PInv S (o :: S')) (h0 : o.left = 0) : PInv S S' := by
  have hp := h.pop
  rw [pops, if_pos h0] at hp
  refine ⟨hp, ?_, h.nep, by have := h.len; simp at this; omega⟩
  cases S' with
  | nil => exact absurd hp.symm h.nep
  | cons o2 S' => exact h.bot
set_option maxRecDepth 100000 in
set_option maxHeartbeats 4000000 in
theorem right_any (v : Value) (l : List Tw) (w : World) (h : TwAt w v l) (hok : ∀ t ∈ l, twOk t) (hl : l.length ≤ 1000000) :
    Calls Tryz.prog 86 #[v] w fun e w' => e = .returned (.bool (rightB l)) ∧ Below w.heap.size w w' := by
  have H := Lib.hid h
  obtain ⟨ao, cap, rfl⟩ := h.val
  obtain ⟨n, hn⟩ : ∃ n, n = l.length := ⟨_, rfl⟩
  have HN := Lib.hid hn
  have HOk := Lib.hid hok
  have hR0 : RInv l n 0 [⟨n, 0, 9223372036854775807, 0⟩] := ⟨by rw [hn]; rfl, by simp [botS], by simp, by simp⟩
  have HR0 := Lib.hid hR0
  rw [← hn] at hl H ⊢
  clear h hok hn hR0
  obtain ⟨i0, hi0, hz0, hz1, hz2⟩ := info_parts Tryz.infoOpen
  go_enter Tryz.func86, Tryz.ntmps86
  go_upto_region 2 with (fail)
  refine gen_world (S := fun u => Below w.heap.size w u ∧ Stk w.heap.size u (.slice (some ⟨w.heap.size, 0, none⟩) 1 1) [⟨n, 0, 9223372036854775807, 0⟩]) ⟨(one_new w _).1, ⟨own_shut (by simp [opc]) (Nat.le_refl _) (heap_alloc_new w _) (Nat.le_refl _) (by unfold maxLen; omega) rfl rfl, fun o ho => by simp at ho; subst ho; unfold okO; simp only []; omega⟩⟩ (fun u0 hu => ?_)
  obtain ⟨hb0, hs0⟩ := hu
  have HB0 := Lib.hid hb0
  have HS0 := Lib.hid hs0
  clear hb0 hs0
  go_wp2
  go_loopw [3, 14] (fun v i wr => ∃ (k : Nat) (S : List Op), k ≤ n ∧ i = .int .i64 k ∧ Stk w.heap.size wr v S ∧ Below w.heap.size w wr ∧ Hid (RInv l n k S)) (fun _ i _ => n - (intOf i).toNat)
  case atStart => exact ⟨0, _, Nat.zero_le _, rfl, HS0.out, HB0.out, HR0⟩
  case round =>
    obtain ⟨k, S, hk, rfl, hs, hbel, HI⟩ := hrel
    by_cases hlt : k < n
    · have hlt2 : (k : Int) < n := by omega
      obtain ⟨b, off, rfl, hblt, e0, e1, e2, e3, e4⟩ := (H.out.later hbel).cells.2.2.2.2 k (by rw [← HN.out]; exact hlt)
      obtain ⟨t, ht⟩ : ∃ t, t = l[k]'(by rw [← HN.out]; exact hlt) := ⟨_, rfl⟩
      rw [← ht] at e0 e1 e2 e3 e4
      have HT := Lib.hid (show t = atT l k from by rw [atT_get l (by rw [← HN.out]; exact hlt), ht])
      have htk := HOk.out t (by rw [ht]; exact List.getElem_mem _)
      obtain ⟨htk1, htk2⟩ := htk
      have HS := Lib.hid hs
      have HB := Lib.hid hbel
      clear ht hs hbel
      go_wp2
      refine gen_world (S := fun u => Below wr.heap.size wr u ∧ u.heap[wr.heap.size]? = some (.cells #[.int .i64 t.rule, .int .i64 t.lev, .int .i64 t.fr, .int .i64 t.to, .int .i64 t.kids] 50 (0, 0))) (one_new wr _) (fun u hu => ?_)
      obtain ⟨hb1, hx1⟩ := hu
      have HS1 := Lib.hid (HS.out.later hb1)
      have HB1 := Lib.hid (HB.out.trans (hb1.mono HB.out.size))
      have HX := Lib.hid hx1
      obtain ⟨X, hX⟩ : ∃ X, X = wr.heap.size := ⟨_, rfl⟩
      rw [← hX] at HX ⊢
      have hP : PInv S S := ⟨rfl, rfl, (accS_pops (l := l) (n := k) S (by have := HI.out.bot; omega)).2.2, Nat.le_refl _⟩
      have HP := Lib.hid hP
      clear hb1 hx1 e0 e1 e2 e3 e4 hX hP
      go_loopw [3] (fun v wr2 => ∃ S2 : List Op, Stk w.heap.size wr2 v S2 ∧ Below u.heap.size u wr2 ∧ Hid (PInv S S2)) (fun v _ => lenOf v)
      case atStart => exact ⟨S, HS1.out, Below.refl _ _, HP⟩
      case round =>
        obtain ⟨S2, hs2, hb2, HP2⟩ := hrel
        obtain ⟨o, S', rfl⟩ := HP2.out.cons
        obtain ⟨g, cap2, rfl, hc1, hc2, hbg, hgl, c0, c1, c2, c3, f0, f3⟩ := hs2.open
        obtain ⟨m, hm⟩ : ∃ m, m = S'.length := ⟨_, rfl⟩
        obtain ⟨n1, hn1⟩ : ∃ n1, n1 = S'.length + 1 := ⟨_, rfl⟩
        rw [← hn1] at hc1 hs2 ⊢
        rw [← hm] at c0 c1 c2 c3 f0 f3
        have HM := Lib.hid hm
        have HN1 := Lib.hid hn1
        have hmn : m + 1 = n1 := by omega
        have hw : IntKind.i64.wrap ((n1 : Int) - 1) = (m : Int) := (IntWalk.i64_in _ (by unfold maxLen at hc2; omega)).trans (by omega)
        have hmn2 : (m : Int) < n1 := by omega
        have hm0 : (0 : Int) ≤ m := by omega
        have HMN := Lib.hid hmn
        have HS2 := Lib.hid hs2
        have HB2 := Lib.hid hb2
        clear hm hn1 hs2 hb2 hmn
        go_wp2_with fail
        refine (done_any o _).mono ?_
        rintro e wd ⟨rfl, hbd⟩
        have HS3 := Lib.hid (HS2.out.later hbd)
        have HB3 := Lib.hid (HB2.out.trans (hbd.mono HB2.out.size))
        obtain ⟨d0, d1, d2, d3⟩ := And.intro (cell_later hbd c0) (And.intro (cell_later hbd c1) (And.intro (cell_later hbd c2) (cell_later hbd c3)))
        have df0 := (hbd.frozen (p := ⟨g, _, none⟩) hgl).trans f0
        have df3 := (hbd.frozen (p := ⟨g, _, none⟩) hgl).trans f3
        have hgd := Nat.lt_of_lt_of_le hgl hbd.size
        clear hbd c0 c1 c2 c3 f0 f3 hgl
        by_cases h0 : o.left = 0
        · have hq : (o.left == 0) = true := by simp [h0]
          have H0 := Lib.hid h0
          clear d0 d1 d2 d3 df0 df3 h0
          go_wp2
          go_roundw
          case rel =>
            have h1 := HS3.out.pop HN1.out
            rw [← HM.out] at h1
            exact ⟨S', h1, HB3.out, Lib.hid (HP2.out.next H0.out)⟩
          case measure => simp [lenOf]; have := HMN.out; omega
        · have hq : (o.left == 0) = false := by simp [h0]
          have H0 := Lib.hid h0
          clear h0
          go_upto_region 8 with (fail)
          have hxd := (HB3.out.block _ (lt_of_block HX.out)).trans HX.out
          obtain ⟨x0, x1, x2, x3, x4⟩ := five_box hxd
          have HXd := Lib.hid hxd
          have HT2 := Lib.hid (show ∀ u2, Below wd.heap.size wd u2 → Calls Tryz.prog 116 #[opv o, twv t] u2 fun e w' => e = .returned (.bool (takesB o t)) ∧ Below wd.heap.size wd w' from fun u2 hu2 => (takes_any o t u2 (HS3.out.ok o (by simp)).2.2).mono fun e w' hh => ⟨hh.1, hu2.trans (hh.2.mono hu2.size)⟩)
          unfold opv twv at HT2
          clear hxd
          refine wp_region_held_drew (S := fun u2 => Below wd.heap.size wd u2) (by kernel_rfl) ((Below.refl _ _).drew) (fun hS => ?_)
          refine wpAnyH_take (i := 0) (oi := ⟨_, _, _, _, _, _⟩) (v := ?v1) rfl (by kernel_rfl) (by kernel_rfl) (by kernel_rfl) (fun _ _ _ h => h) ?y1 hS ?_
          case y1 => first | (refine Or.inr ⟨by rfl, ?_⟩; with_reducible rfl) | (refine Or.inl ⟨by rfl, ?_⟩; intro wS hSw; have s0 := cell_later hSw d0; have s1 := cell_later hSw d1; have s2 := cell_later hSw d2; have s3 := cell_later hSw d3; have y0 := cell_later hSw x0; have y1 := cell_later hSw x1; have y2 := cell_later hSw x2; have y3 := cell_later hSw x3; have y4 := cell_later hSw x4; go_simp; try with_reducible rfl)
          simp only [Act.put, List.setIfInBounds_toArray, List.set_cons_zero, List.set_cons_succ]
          refine wpAnyH_take (i := 1) (oi := ⟨_, _, _, _, _, _⟩) (v := ?v2) rfl (by kernel_rfl) (by kernel_rfl) (by kernel_rfl) (fun _ _ _ h => h) ?y2 hS ?_
          case y2 => first | (refine Or.inr ⟨by rfl, ?_⟩; with_reducible rfl) | (refine Or.inl ⟨by rfl, ?_⟩; intro wS hSw; have s0 := cell_later hSw d0; have s1 := cell_later hSw d1; have s2 := cell_later hSw d2; have s3 := cell_later hSw d3; have y0 := cell_later hSw x0; have y1 := cell_later hSw x1; have y2 := cell_later hSw x2; have y3 := cell_later hSw x3; have y4 := cell_later hSw x4; go_simp; try with_reducible rfl)
          simp only [Act.put, List.setIfInBounds_toArray, List.set_cons_zero, List.set_cons_succ]
          refine wpAnyH_take (i := 2) (oi := ⟨_, _, _, _, _, _⟩) (v := ?v3) rfl (by kernel_rfl) (by kernel_rfl) (by kernel_rfl) (fun _ _ _ h => h) ?y3 hS ?_
          case y3 => first | (refine Or.inr ⟨by rfl, ?_⟩; with_reducible rfl) | (refine Or.inl ⟨by rfl, ?_⟩; intro wS hSw; have s0 := cell_later hSw d0; have s1 := cell_later hSw d1; have s2 := cell_later hSw d2; have s3 := cell_later hSw d3; have y0 := cell_later hSw x0; have y1 := cell_later hSw x1; have y2 := cell_later hSw x2; have y3 := cell_later hSw x3; have y4 := cell_later hSw x4; go_simp; try with_reducible rfl)
          simp only [Act.put, List.setIfInBounds_toArray, List.set_cons_zero, List.set_cons_succ]
          refine wpAnyH_take (i := 3) (oi := ⟨_, _, _, _, _, _⟩) (v := ?v4) rfl (by kernel_rfl) (by kernel_rfl) (by kernel_rfl) (fun _ _ _ h => h) ?y4 hS ?_
          case y4 => first | (refine Or.inr ⟨by rfl, ?_⟩; with_reducible rfl) | (refine Or.inl ⟨by rfl, ?_⟩; intro wS hSw; have s0 := cell_later hSw d0; have s1 := cell_later hSw d1; have s2 := cell_later hSw d2; have s3 := cell_later hSw d3; have y0 := cell_later hSw x0; have y1 := cell_later hSw x1; have y2 := cell_later hSw x2; have y3 := cell_later hSw x3; have y4 := cell_later hSw x4; go_simp; try with_reducible rfl)
          simp only [Act.put, List.setIfInBounds_toArray, List.set_cons_zero, List.set_cons_succ]
          refine wpAnyH_ready (rs := [4]) (by kernel_rfl) (by simp) ?_
          refine AllReadyH.cons (o := ⟨_, _, _, _, _, _⟩) rfl (fun K hK => ?_) AllReadyH.nil
          go_simp
          refine (HT2.out _ hS).mono ?_
          rintro e wx ⟨rfl, hS⟩
          go_wp2_with fail
          refine hK.out _ _ hS (fun _ => ?_)
          clear hK K
          try simp only [Act.put, List.setIfInBounds_toArray, List.set_cons_zero, List.set_cons_succ]
          refine wpAnyH_take (i := 5) (oi := ⟨_, _, _, _, _, _⟩) (v := ?v5) rfl (by kernel_rfl) (by kernel_rfl) (by kernel_rfl) (fun _ _ _ h => h) ?y5 hS ?_
          case y5 => first | (refine Or.inr ⟨by rfl, ?_⟩; with_reducible rfl) | (refine Or.inl ⟨by rfl, ?_⟩; intro wS hSw; have s0 := cell_later hSw d0; have s1 := cell_later hSw d1; have s2 := cell_later hSw d2; have s3 := cell_later hSw d3; have y0 := cell_later hSw x0; have y1 := cell_later hSw x1; have y2 := cell_later hSw x2; have y3 := cell_later hSw x3; have y4 := cell_later hSw x4; go_simp; try with_reducible rfl)
          simp only [Act.put, List.setIfInBounds_toArray, List.set_cons_zero, List.set_cons_succ]
          refine wpAnyH_done (by kernel_rfl) ?_ _
          have HSx := Lib.hid (HS3.out.later hS)
          have HBx := Lib.hid (HB3.out.trans (hS.mono HB3.out.size))
          have c0 := cell_later hS d0
          have c1 := cell_later hS d1
          have c2 := cell_later hS d2
          have c3 := cell_later hS d3
          have f0 := (hS.frozen (p := ⟨g, _, none⟩) hgd).trans df0
          have f3 := (hS.frozen (p := ⟨g, _, none⟩) hgd).trans df3
          clear d0 d1 d2 d3 df0 df3 x0 x1 x2 x3 x4
          have hxx := (hS.block _ (lt_of_block HXd.out)).trans HXd.out
          obtain ⟨x0, x1, x2, x3, x4⟩ := five_box hxx
          have hgx : X ≠ g := fun e => by
            obtain ⟨cur, hg⟩ := HSx.out.blk
            rw [← e, hxx] at hg
            simp at hg
          have HXx := Lib.hid hxx
          have HGx := Lib.hid hgx
          clear hS hxx HT2
          cases htk : takesB o t
          · have HTk := Lib.hid htk
            clear htk
            go_wp2
            go_ret
            refine ⟨ret_bool ?_, HB1.out.trans (HBx.out.mono HB1.out.size)⟩
            rw [HI.out.res, ← goB_pops l (by rw [← HN.out]; exact hlt) S (o :: S') HP2.out.pop, goB_no l (by rw [← HN.out]; exact hlt) o S' H0.out (by rw [← HT.out]; exact HTk.out)]
          · have HTk := Lib.hid htk
            have hok := HSx.out.ok o (by simp)
            obtain ⟨ho1, ho2, -, -⟩ := hok
            have ho3 : 1 ≤ o.left := by have := H0.out; omega
            clear htk ho1
            go_upto_region 10 with (fail)
            go_region
            all_goals go_upto_region 11 with (fail)
            have hsX := HSx.out.set HN1.out (o.left - 1) t.to (by omega)
            rw [← HM.out] at hsX
            have hkX : Keeps (fun k => k = g) wx (((wx.setCell ⟨g, m * 4, none⟩ (.int .i64 (o.left - 1))).setCell ⟨g, m * 4 + 3, none⟩ (.int .i64 t.to)).drew) := ((((Keeps.refl (fun k => k = g) wx).setCell (p := ⟨g, m * 4, none⟩) rfl _).setCell (p := ⟨g, m * 4 + 3, none⟩) rfl _)).drew
            have hbgw : w.heap.size ≤ g := hbg
            refine gen_world (S := fun u2 => Keeps (fun k => k = g) wx u2 ∧ Stk w.heap.size u2 (.slice (some ⟨g, 0, none⟩) n1 cap2) (⟨o.left - 1, o.sf, o.st, t.to⟩ :: S')) ⟨hkX, hsX.keep (T := fun _ => False) ((Keeps.refl (fun _ => False) _).drew) (fun _ _ h => h)⟩ (fun u2 hu2 => ?_)
            obtain ⟨hk2, hs2⟩ := hu2
            have hx2 := hk2.obj HXx.out HGx.out
            have HB4 := Lib.hid (show Below w.heap.size w u2 from HB1.out.trans ((HBx.out.mono HB1.out.size).trans (hk2.below (Nat.le_trans HB1.out.size HBx.out.size) (fun k hk => by subst hk; exact hbgw))))
            clear c0 c1 c2 c3 f0 f3 x0 x1 x2 x3 x4 hsX hkX hk2
            obtain ⟨x0, x1, x2, x3, x4⟩ := five_box hx2
            have HX2 := Lib.hid hx2
            have HS4 := Lib.hid hs2
            have hown := hs2.own
            rw [show (⟨o.left - 1, o.sf, o.st, t.to⟩ :: S' : List Op).length = n1 from by simp [HN1.out]] at hown
            have hsz := HB4.out.size
            have hn1l : n1 ≤ 4000000 := by
              have h1 := HI.out.len
              have h2 := HP2.out.len
              have h3 := HN1.out
              simp at h2
              omega
            clear hx2 hs2
            go_wp2_with (at_builtin; refine wpList_append_own _ rfl (.tmp 55) (.tmp 64) 205 rfl w.heap.size 204 i0 _ 4 32 Tryz.underlying205 hi0 hz0 hz1 hz2 rfl (by decide) _ n1 _ rfl (hown.alloc _) ⟨u2.heap.size, 0, none⟩ 1 1 [.int .i64 t.kids, .int .i64 t.fr, .int .i64 t.to, .int .i64 t.fr] rfl rfl (World.news_of_block (cs := #[.int .i64 t.kids, .int .i64 t.fr, .int .i64 t.to, .int .i64 t.fr]) (t := 204) (fr := (0, 0)) (heap_alloc_new u2 _)) (by simp [Value.oneCell']) (by unfold maxLen; omega) (by omega) (by simp; omega) ?_; intro v' w1 hown' hgrow _)
            have hok : okT t := by
              have := HTk.out
              simp only [takesB, decide_eq_true_eq] at this
              exact this.1
            have HS5 := Lib.hid (show Stk w.heap.size w1 v' (⟨t.kids, t.fr, t.to, t.fr⟩ :: ⟨o.left - 1, o.sf, o.st, t.to⟩ :: S') from Stk.push (by simp [HN1.out]) hown' (by unfold okT at hok; unfold okO; simp only []; omega) HS4.out.ok)
            have HB5 := Lib.hid (show Below w.heap.size w w1 from HB4.out.trans (((Below.refl w.heap.size u2).alloc hsz _).grown hgrow (by simp; omega) (fun r hr => (hown.lt r hr).1)))
            have HI5 := Lib.hid (show RInv l n (k + 1) (⟨t.kids, t.fr, t.to, t.fr⟩ :: ⟨o.left - 1, o.sf, o.st, t.to⟩ :: S') from by
              have hkl : k < l.length := by rw [← HN.out]; exact hlt
              refine ⟨?_, ?_, by simp, by have h1 := HI.out.len; have h2 := HP2.out.len; simp at h2 ⊢; omega⟩
              · rw [HI.out.res, ← goB_pops l hkl S (o :: S') HP2.out.pop, goB_yes l hkl o S' H0.out (by rw [← HT.out]; exact HTk.out), ← HT.out]
              · have h1 := HI.out.bot
                rw [← HP2.out.bot] at h1
                cases S' with
                | nil => simp only [botS] at h1 ⊢; omega
                | cons o2 S' => simp only [botS] at h1 ⊢; omega)
            clear hown' hgrow hown hok x0 x1 x2 x3 x4
            go_wp2
            go_roundw
            case rel => exact ⟨k + 1, _, by omega, by go_num, HS5.out, HB5.out, HI5⟩
            case measure => simp [intOf]; omega
    · have hkn : k = n := by omega
      have hlt2 : ¬ (k : Int) < n := by omega
      obtain ⟨o, S', rfl⟩ : ∃ o S', S = o :: S' := by
        cases S with
        | nil => exact absurd rfl HI.out.ne
        | cons o S' => exact ⟨o, S', rfl⟩
      obtain ⟨g, cap2, rfl, hc1, hc2, -⟩ := hs.open
      obtain ⟨n1, hn1⟩ : ∃ n1, n1 = S'.length + 1 := ⟨_, rfl⟩
      rw [← hn1] at hc1 hs ⊢
      have HN1 := Lib.hid hn1
      have hn2 : 1 ≤ n1 := by omega
      have HR := Lib.hid (show rightB l = restB (o :: S') from by rw [HI.out.res, hkn, HN.out, goB_end l _ (by simp)])
      have HB := Lib.hid hbel
      have HS := Lib.hid hs
      unfold maxLen at hc2
      clear hkn hbel hs hn1
      by_cases hc5 : cap2 = 1
      · have hn3 : n1 = 1 := by omega
        subst hc5
        subst hn3
        have HCt := Lib.hid (containsf_any (.slice (some ⟨g, 0, none⟩) 0 0) _ wr (HS.out.tail HN1.out 0 0 (.inl (by have := HN1.out; omega)) ⟨by omega, by unfold maxLen; omega⟩))
        go_wp2_with fail
        refine HCt.out.mono ?_
        rintro e wd ⟨rfl, hbd⟩
        go_wp2
        go_ret
        exact ⟨ret_bool (by rw [HR.out]; simp [restB]), HB.out.trans (hbd.mono HB.out.size)⟩
      · have hn3 : (1 : Int) < cap2 := by omega
        have HCt := Lib.hid (containsf_any (.slice (some ⟨g, 4, none⟩) (n1 - 1) (cap2 - 1)) _ wr (HS.out.tail HN1.out 4 (cap2 - 1) (.inr rfl) ⟨by omega, by unfold maxLen; omega⟩))
        go_wp2_with fail
        refine HCt.out.mono ?_
        rintro e wd ⟨rfl, hbd⟩
        go_wp2
        go_ret
        exact ⟨ret_bool (by rw [HR.out]; simp [restB]), HB.out.trans (hbd.mono HB.out.size)⟩
end Go.Proofs.YtkimkghldilliaaGreat
