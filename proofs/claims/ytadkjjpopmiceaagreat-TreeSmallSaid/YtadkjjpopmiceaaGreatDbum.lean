import Derived.Test.YtadkjjpopmiceaaGreatDbsm
namespace Go.Proofs.YtadkjjpopmiceaaGreat
open Go.RowKit Go.Lib

theorem bPut_len (most : Nat) (l l2 : List Tw) : (bPut most l l2).2.length ≤ l.length + l2.length := by
  unfold bPut
  repeat' split
  all_goals simp
theorem bWrap_len (most : Nat) (l : List Tw) (n rule lev fr tz : Int) (h : rightB l = true) : (bWrap most l n rule lev fr tz).2.length ≤ l.length + 1 := by
  unfold bWrap
  split
  · rename_i hm
    obtain ⟨m, rfl, hml⟩ := mark_le hm h
    rw [Int.toNat_natCast]
    repeat' split
    all_goals simp [wrapL_len hml]
  · simp
theorem bBack_len (l : List Tw) (n : Int) : (bBack l n).2.length ≤ l.length := by
  unfold bBack
  split
  · simp
    omega
  · simp
section
variable {W0 wk : World} {b x : Nat} {v : Value} {l l1 : List Tw} {k pk pk1 rb : Nat} {vr : Value} {K : List (Nat × Obj)} {c : Int}
theorem bsPut {vl : Value} {l2 : List Tw} (h : Bs W0 wk b x v l k pk rb vr l pk K) (h2 : TwRow wk vl l2) (hl : l.length + l2.length ≤ 100000) (hp : bPut k l l2 = (c, l1)) :
    Calls Tryz.prog 35 #[.pointer (some ⟨b, 0, none⟩), vl] wk fun e w' => e = .returned (.int .i64 c) ∧ ∃ v', Bs W0 w' b x v' l1 k (max pk l1.length) rb vr l pk K := by
  have := buPut wk h.bu h2 hl
  rw [hp] at this
  exact this.mono fun e w' hh => ⟨hh.1, h.prog hh.2⟩
theorem bsPutD {vl : Value} {l2 : List Tw} (h : Bs W0 wk b x v l1 k pk1 rb vr l pk K) (h2 : TwRow wk vl l2) (hl : l.length + l2.length ≤ 100000) (hp : bPut k l l2 = (c, l1)) :
    Calls Tryz.prog 67 #[.pointer (some ⟨rb, 0, none⟩), vl] wk fun e w' => e = .returned (.int .i64 c) ∧ ∃ vr', Bs W0 w' b x v l1 k pk1 rb vr' l1 (max pk l1.length) K := by
  have := rPut_any wk h.dc h2 hl
  rw [hp] at this
  exact this.mono fun e w' hh => ⟨hh.1, h.doc hh.2⟩
theorem bsWrap (n rule lev fr tz : Int) (h : Bs W0 wk b x v l k pk rb vr l pk K) (hl : l.length + 1 ≤ 100000) (hto : tz ≤ 9223372036854775807) (hp : bWrap k l n rule lev fr tz = (c, l1)) :
    Calls Tryz.prog 37 #[.pointer (some ⟨b, 0, none⟩), .int .i64 n, .int .i64 rule, .int .i64 lev, .agg #[.int .i64 fr, .int .i64 tz]] wk fun e w' => e = .returned (.int .i64 c) ∧ ∃ v', Bs W0 w' b x v' l1 k (max pk l1.length) rb vr l pk K := by
  have := buWrap n rule lev fr tz wk h.bu hl hto
  rw [hp] at this
  exact this.mono fun e w' hh => ⟨hh.1, h.prog hh.2⟩
theorem bsWrapD (n rule lev fr tz : Int) (h : Bs W0 wk b x v l1 k pk1 rb vr l pk K) (hr : rightB l = true) (hl : l.length + 1 ≤ 100000) (hto : tz ≤ 9223372036854775807) (hp : bWrap k l n rule lev fr tz = (c, l1)) :
    Calls Tryz.prog 68 #[.pointer (some ⟨rb, 0, none⟩), .int .i64 n, .int .i64 rule, .int .i64 lev, .agg #[.int .i64 fr, .int .i64 tz]] wk fun e w' => e = .returned (.int .i64 c) ∧ ∃ vr', Bs W0 w' b x v l1 k pk1 rb vr' l1 (max pk l1.length) K := by
  have := rWrap_any n rule lev fr tz wk h.dc hr hl hto
  rw [hp] at this
  exact this.mono fun e w' hh => ⟨hh.1, h.doc hh.2⟩
theorem bsBack (n : Int) (h : Bs W0 wk b x v l k pk rb vr l pk K) (hp : bBack l n = (c, l1)) :
    Calls Tryz.prog 39 #[.pointer (some ⟨b, 0, none⟩), .int .i64 n] wk fun e w' => e = .returned (.int .i64 c) ∧ ∃ v', Bs W0 w' b x v' l1 k pk rb vr l pk K := by
  have := buBack n wk h.bu
  rw [hp] at this
  exact this.mono fun e w' hh => ⟨hh.1, h.prog hh.2⟩
theorem bsBackD (n : Int) (h : Bs W0 wk b x v l1 k pk1 rb vr l pk K) (hr : rightB l = true) (hp : bBack l n = (c, l1)) :
    Calls Tryz.prog 69 #[.pointer (some ⟨rb, 0, none⟩), .int .i64 n] wk fun e w' => e = .returned (.int .i64 c) ∧ ∃ vr', Bs W0 w' b x v l1 k pk1 rb vr' l1 pk K := by
  have := rBack_any n wk h.dc hr
  rw [hp] at this
  exact this.mono fun e w' hh => ⟨hh.1, h.doc hh.2⟩
end
set_option maxRecDepth 100000 in
set_option maxHeartbeats 8000000 in
theorem treeBuilds_main (room : Int) (v1 : Value) (L : List Dd) (w : World) (h1 : DdsAt w v1 L) (hL : L.length ≤ 140737488351232) (hrm : room ≤ 9223372036854775807) :
    Calls Tryz.prog 32 #[.int .i64 room, v1] w fun e w' => e = .returned (.bool true) ∧ Below w.heap.size w w' := by
  have HAw := Lib.hid (fun u => awake_any u)
  have H1 := Lib.hid h1
  have HZ := Lib.hid (law_size w v1 L h1 hL)
  obtain ⟨ao, cap, rfl⟩ := h1.val
  obtain ⟨n, hn⟩ : ∃ n, n = L.length := ⟨_, rfl⟩
  have HN := Lib.hid hn
  rw [← hn] at H1 HZ hL ⊢
  clear h1 hn
  by_cases h60 : n ≤ 60
  · have h60' : ¬ (60 : Int) < n := by omega
    go_enter Tryz.func32, Tryz.ntmps32
    go_wp2_with fail
    refine HZ.out.mono ?_
    rintro e w1 ⟨s, rfl, hs, rfl⟩
    by_cases h120 : s ≤ 120
    · have h120' : ¬ (120 : Int) < s := by omega
      have hsum : n + sumD L ≤ 120 := by have := hs h120; omega
      have HSu := Lib.hid hsum
      clear hs hsum HZ
      by_cases hr0 : room < 0
      · go_wp2_with fail
        refine (buNew_neg room w hr0).mono ?_
        rintro e w1 ⟨rfl, rfl⟩
        go_wp2_with fail
        refine (HAw.out _).mono ?_
        rintro e w2 ⟨rfl, hb⟩
        go_wp2
        go_ret
        exact ⟨rfl, hb⟩
      · obtain ⟨k, rfl⟩ : ∃ k : Nat, room = k := ⟨room.toNat, by omega⟩
        go_wp2_with fail
        refine (buNew k w (by omega)).mono ?_
        rintro e w2 ⟨b, x, rfl, hU, hb⟩
        have HU := Lib.hid hU
        have HB := Lib.hid hb
        clear hU hb
        go_upto_region 7 with (fail)
        have hal := one_new w2 (.cells #[.slice none 0 0, .int .i64 (k : Int), .int .i64 0] 101 (0, 0))
        generalize w2.alloc (.cells #[.slice none 0 0, .int .i64 (k : Int), .int .i64 0] 101 (0, 0)) = w3 at hal ⊢
        have HS0 := Lib.hid (show Bs w w3 b x (.slice none 0 0) [] k 0 w2.heap.size (.slice none 0 0) [] 0 [] from
          ⟨HU.out.later hal.1, ⟨hal.2, World.ownsRow_nil _ _ _ _, by simp, by simp, by simp, HB.out.size, Nat.le_trans HB.out.size hal.1.size⟩, HB.out.trans (hal.1.mono HB.out.size), (fun g hg => by cases hg), (fun q hq => by simp at hq)⟩)
        generalize w2.heap.size = rb at HS0 ⊢
        clear hal HU HB
        go_wp2
        go_loopw [7] (fun i wr => ∃ (j : Nat) (v : Value) (l : List Tw) (pk : Nat) (vr : Value), j ≤ n ∧ i = .int .i64 j ∧ Hid (Bs w wr b x v l k pk rb vr l pk []) ∧ l.length ≤ sumD (L.take j) + j) (fun i _ => n - (intOf i).toNat)
        case atStart => exact ⟨0, _, _, _, _, by omega, rfl, HS0, by simp⟩
        case round =>
          obtain ⟨j, v, l, pk, vr, hj, rfl, HS, hll⟩ := hrel
          by_cases hlt : j < n
          · have hlt' : (j : Int) < n := by omega
            have hjL : j < L.length := by rw [← HN.out]; exact hlt
            have HDr := Lib.hid (H1.out.later HS.out.bl)
            obtain ⟨db, doff, rfl, -, c0, c1, c2, c3, c4, c5, c6⟩ := HDr.out.cells.2.2.2 j hjL
            have hsd := sumD_take L hjL
            have hsle := sumD_le L (j + 1)
            obtain ⟨hat, hok, hlen, htz⟩ := HDr.out.2 _ (List.getElem_mem hjL)
            obtain ⟨t, ht⟩ : ∃ t, t = (L[j]).l := ⟨_, rfl⟩
            rw [← ht] at hat hok hlen hsd
            obtain ⟨ta, tc, hv⟩ := hat.val
            obtain ⟨q, hq⟩ : ∃ q, q = t.length := ⟨_, rfl⟩
            rw [← hq] at hv hlen hsd
            rw [hv] at c6 hat
            obtain ⟨tz, htz2⟩ : ∃ z, z = (L[j]).tz := ⟨_, rfl⟩
            rw [← htz2] at c5 htz
            have hq120 : q + l.length + 1 ≤ 1000 := by have := HSu.out; omega
            have HLn := Lib.hid (show l.length + q + 1 ≤ sumD (L.take (j + 1)) + (j + 1) from by omega)
            have HTt := Lib.hid (show TwAt w (.slice ta q tc) t from by have := (H1.out.2 _ (List.getElem_mem hjL)).1; rwa [← ht, hv] at this)
            have HOk := Lib.hid hok
            have HQ := Lib.hid hq
            have HTu := Lib.hid (turned_any (L[j]).what (L[j]).mark (L[j]).rule (L[j]).lev (L[j]).fr tz ta q tc wr HS.out.dc HS.out.bu.right)
            obtain ⟨rule, hru⟩ : ∃ z, z = (L[j]).rule := ⟨_, rfl⟩
            obtain ⟨lev, hlv⟩ : ∃ z, z = (L[j]).lev := ⟨_, rfl⟩
            obtain ⟨what, hwt⟩ : ∃ z, z = (L[j]).what := ⟨_, rfl⟩
            obtain ⟨mark, hmk⟩ : ∃ z, z = (L[j]).mark := ⟨_, rfl⟩
            obtain ⟨fr, hfr⟩ : ∃ z, z = (L[j]).fr := ⟨_, rfl⟩
            rw [← hru] at c2 HTu
            rw [← hlv] at c3 HTu
            rw [← hwt] at c0 HTu
            rw [← hmk] at c1 HTu
            rw [← hfr] at c4 HTu
            clear hsd hsle hat hok hlen hv hq ht htz2 hru hlv hwt hmk hfr hll
            go_wp2_with fail
            refine HTu.out.mono ?_
            rintro e w4 ⟨wh, mk, fr2, rfl, hwh, hb⟩
            have HS4 := Lib.hid (HS.out.later hb)
            have HWh := Lib.hid hwh
            clear hwh c0 c1 c2 c3 c4 c5 c6 HTu hb
            go_upto_region 11 with (fail)
            refine gen_world (S := fun u => Below w4.heap.size w4 u ∧ u.heap[w4.heap.size]? = some (.cells #[.int .i64 wh, .int .i64 mk, .int .i64 rule, .int .i64 lev, .int .i64 fr2, .int .i64 tz, .slice ta q tc] 50 (0, 0))) (one_new w4 _) (fun u hu => ?_)
            have HS5 := Lib.hid (HS4.out.watch hu.1 hu.2 (Nat.le_refl _))
            obtain ⟨XD, hXD⟩ : ∃ XD, XD = w4.heap.size := ⟨_, rfl⟩
            rw [← hXD] at HS5 ⊢
            clear hu hXD
            obtain ⟨x0, x1, x2, x3, x4, x5, x6⟩ := seven_box (HS5.out.kn _ (.head _)).1
            have HT5 := Lib.hid ((show TwAt w _ t from HTt.out).later HS5.out.bl)
            have HLe := Lib.hid (lentTwigs_any _ t u HT5.out (by rw [← HQ.out]; omega))
            rw [← HQ.out] at HLe
            go_wp2_with fail
            refine HLe.out.mono ?_
            rintro e w6 ⟨rfl, hg, hb⟩
            have HS6 := Lib.hid (HS5.out.watch hb (show w6.heap[u.heap.size]? = some _ from hg) (Nat.le_refl _))
            have HXg := Lib.hid (show XD ≠ u.heap.size from by have := lt_of_block (HS5.out.kn _ (.head _)).1; simp only at this; omega)
            obtain ⟨g, hge⟩ : ∃ g, g = u.heap.size := ⟨_, rfl⟩
            rw [← hge] at HS6 HXg ⊢
            clear x0 x1 x2 x3 x4 x5 x6 hg hb hge HLe
            obtain ⟨x0, x1, x2, x3, x4, x5, x6⟩ := seven_box (HS6.out.kn _ (.tail _ (.head _))).1
            have HSd := Lib.hid (HS6.out.later ((Below.refl w6.heap.size w6).drew))
            have HRi := Lib.hid HS6.out.bu.right
            rcases HWh.out with rfl | rfl | rfl
            · obtain ⟨c, l1, hp⟩ : ∃ c l1, bPut k l t = (c, l1) := ⟨_, _, rfl⟩
              have HP := Lib.hid hp
              have HLe1 := Lib.hid (show l1.length ≤ sumD (L.take (j + 1)) + (j + 1) from by have h1 := bPut_len k l t; rw [hp, ← HQ.out] at h1; simp only at h1; have := HLn.out; omega)
              have HR1 := Lib.hid (TwRow.mk (TLentAt.tw (show TLentAt w6.drew g t from (HSd.out.kn _ (.head _)).1) (by rw [← HQ.out]; omega)) HOk.out (by rw [← HQ.out]; omega))
              rw [← HQ.out] at HR1
              have hlq : l.length + t.length ≤ 100000 := by rw [← HQ.out]; omega
              have HLq := Lib.hid hlq
              have HR2 := Lib.hid (fun u (hu : Below w.heap.size w u) => (show TwRow u (.slice ta q tc) t from TwRow.mk (HTt.out.later hu) HOk.out (by rw [← HQ.out]; omega)))
              clear hp hlq
              go_upto_region 15 with (fail)
              refine wp_region_held_drew (S := fun u2 => u2.heap[XD]? = some (.cells #[.int .i64 0, .int .i64 mk, .int .i64 rule, .int .i64 lev, .int .i64 fr2, .int .i64 tz, .slice ta q tc] 50 (0, 0))) (by kernel_rfl) ((HSd.out.kn _ (.tail _ (.head _))).1) (fun hS => ?_)
              refine wpAnyH_take (i := 0) (oi := ⟨_, _, _, _, _, _⟩) (v := ?v1) rfl (by kernel_rfl) (by kernel_rfl) (by kernel_rfl) (fun _ _ _ h => h) ?y1 hS ?_
              case y1 => first | (refine Or.inr ⟨by rfl, ?_⟩; with_reducible rfl) | (refine Or.inl ⟨by rfl, ?_⟩; intro wS hSw; obtain ⟨z0, z1, z2, z3, z4, z5, z6⟩ := seven_box hSw; go_simp; try with_reducible rfl)
              simp only [Act.put, List.setIfInBounds_toArray, List.set_cons_zero, List.set_cons_succ]
              refine wpAnyH_take (i := 1) (oi := ⟨_, _, _, _, _, _⟩) (v := ?v2) rfl (by kernel_rfl) (by kernel_rfl) (by kernel_rfl) (fun _ _ _ h => h) ?y2 hS ?_
              case y2 => first | (refine Or.inr ⟨by rfl, ?_⟩; with_reducible rfl) | (refine Or.inl ⟨by rfl, ?_⟩; intro wS hSw; obtain ⟨z0, z1, z2, z3, z4, z5, z6⟩ := seven_box hSw; go_simp; try with_reducible rfl)
              simp only [Act.put, List.setIfInBounds_toArray, List.set_cons_zero, List.set_cons_succ]
              refine wpAnyH_take (i := 3) (oi := ⟨_, _, _, _, _, _⟩) (v := ?v3) rfl (by kernel_rfl) (by kernel_rfl) (by kernel_rfl) (fun _ _ _ h => h) ?y3 hS ?_
              case y3 => first | (refine Or.inr ⟨by rfl, ?_⟩; with_reducible rfl) | (refine Or.inl ⟨by rfl, ?_⟩; intro wS hSw; obtain ⟨z0, z1, z2, z3, z4, z5, z6⟩ := seven_box hSw; go_simp; try with_reducible rfl)
              simp only [Act.put, List.setIfInBounds_toArray, List.set_cons_zero, List.set_cons_succ]
              refine wpAnyH_take (i := 4) (oi := ⟨_, _, _, _, _, _⟩) (v := ?v4) rfl (by kernel_rfl) (by kernel_rfl) (by kernel_rfl) (fun _ _ _ h => h) ?y4 hS ?_
              case y4 => first | (refine Or.inr ⟨by rfl, ?_⟩; with_reducible rfl) | (refine Or.inl ⟨by rfl, ?_⟩; intro wS hSw; obtain ⟨z0, z1, z2, z3, z4, z5, z6⟩ := seven_box hSw; go_simp; try with_reducible rfl)
              simp only [Act.put, List.setIfInBounds_toArray, List.set_cons_zero, List.set_cons_succ]
              refine wpAnyH_take (i := 5) (oi := ⟨_, _, _, _, _, _⟩) (v := ?v5) rfl (by kernel_rfl) (by kernel_rfl) (by kernel_rfl) (fun _ _ _ h => h) ?y5 hS ?_
              case y5 => first | (refine Or.inr ⟨by rfl, ?_⟩; with_reducible rfl) | (refine Or.inl ⟨by rfl, ?_⟩; intro wS hSw; obtain ⟨z0, z1, z2, z3, z4, z5, z6⟩ := seven_box hSw; go_simp; try with_reducible rfl)
              simp only [Act.put, List.setIfInBounds_toArray, List.set_cons_zero, List.set_cons_succ]
              refine wpAnyH_ready (rs := [2]) (by kernel_rfl) (by simp) ?_
              refine AllReadyH.cons (o := ⟨_, _, _, _, _, _⟩) rfl (fun K hK => ?_) AllReadyH.nil
              go_simp
              refine (bsPut HSd.out HR1.out HLq.out HP.out).mono ?_
              rintro e wx ⟨rfl, v2, hA⟩; have HSA := Lib.hid hA; have hS := (HSA.out.kn _ (.tail _ (.head _))).1; clear hA
              go_wp2_with fail
              refine hK.out _ _ hS (fun _ => ?_)
              clear hK K
              try simp only [Act.put, List.setIfInBounds_toArray, List.set_cons_zero, List.set_cons_succ]
              refine wpAnyH_ready (rs := [6]) (by kernel_rfl) (by simp) ?_
              refine AllReadyH.cons (o := ⟨_, _, _, _, _, _⟩) rfl (fun K hK => ?_) AllReadyH.nil
              go_simp
              refine (bsPutD HSA.out (HR2.out _ HSA.out.bl) HLq.out HP.out).mono ?_
              rintro e wx ⟨rfl, vr2, hA⟩; have HSB := Lib.hid hA; have hS := (HSB.out.kn _ (.tail _ (.head _))).1; clear hA
              go_wp2_with fail
              refine hK.out _ _ hS (fun _ => ?_)
              clear hK K
              try simp only [Act.put, List.setIfInBounds_toArray, List.set_cons_zero, List.set_cons_succ]
              refine wpAnyH_take (i := 7) (oi := ⟨_, _, _, _, _, _⟩) (v := ?v6) rfl (by kernel_rfl) (by kernel_rfl) (by kernel_rfl) (fun _ _ _ h => h) ?y6 hS ?_
              case y6 => first | (refine Or.inr ⟨by rfl, ?_⟩; with_reducible rfl) | (refine Or.inl ⟨by rfl, ?_⟩; intro wS hSw; obtain ⟨z0, z1, z2, z3, z4, z5, z6⟩ := seven_box hSw; go_simp; try with_reducible rfl)
              simp only [Act.put, List.setIfInBounds_toArray, List.set_cons_zero, List.set_cons_succ]
              refine wpAnyH_take (i := 8) (oi := ⟨_, _, _, _, _, _⟩) (v := ?v7) rfl (by kernel_rfl) (by kernel_rfl) (by kernel_rfl) (fun _ _ _ h => h) ?y7 hS ?_
              case y7 => first | (refine Or.inr ⟨by rfl, ?_⟩; with_reducible rfl) | (refine Or.inl ⟨by rfl, ?_⟩; intro wS hSw; obtain ⟨z0, z1, z2, z3, z4, z5, z6⟩ := seven_box hSw; go_simp; try with_reducible rfl)
              simp only [Act.put, List.setIfInBounds_toArray, List.set_cons_zero, List.set_cons_succ]
              refine wpAnyH_done (by kernel_rfl) ?_ _
              clear hS x0 x1 x2 x3 x4 x5 x6
              obtain ⟨x0, x1, x2, x3, x4, x5, x6⟩ := seven_box (HSB.out.kn _ (.tail _ (.head _))).1
              have HT7 := Lib.hid ((show TwAt w _ t from HTt.out).later HSB.out.bl)
              have HKe := Lib.hid (keptTwigs_any _ t g _ HT7.out (show TLentAt _ g t from (HSB.out.kn _ (.head _)).1) (by rw [← HQ.out]; omega))
              rw [← HQ.out] at HKe
              go_wp2_with fail
              refine HKe.out.mono ?_
              rintro e w8 ⟨rfl, hb⟩
              have HS8 := Lib.hid (HSB.out.later hb)
              have HOv := Lib.hid (overTwigs_any q g _ w8 (HS8.out.kn _ (.head _)).1 (by simp [tmk_len, flat_len twc_len, ← HQ.out]) (by omega))
              clear hb x0 x1 x2 x3 x4 x5 x6 HKe
              go_wp2_with fail
              refine HOv.out.mono ?_
              rintro e w9 ⟨rfl, hk⟩
              have HS9 := Lib.hid (HS8.out.over hk (fun q hq => by simp only [List.mem_singleton] at hq; subst hq; exact HXg.out))
              clear hk HOv
              obtain ⟨x0, x1, x2, x3, x4, x5, x6⟩ := seven_box (HS9.out.kn _ (.head _)).1
              go_wp2_with fail
              refine (same_any mk w9 HS9.out.bu HS9.out.dc).mono ?_
              rintro e w10 ⟨rfl, hb⟩
              have HSx := Lib.hid (HS9.out.later hb).free
              clear hb x0 x1 x2 x3 x4 x5 x6
              go_wp2
              go_roundw
              case rel => exact ⟨j + 1, _, _, _, _, by omega, by go_num, HSx, HLe1.out⟩
              case measure => simp [intOf]; omega
            · obtain ⟨c, l1, hp⟩ : ∃ c l1, bWrap k l mk rule lev fr2 tz = (c, l1) := ⟨_, _, rfl⟩
              have HP := Lib.hid hp
              have HLe1 := Lib.hid (show l1.length ≤ sumD (L.take (j + 1)) + (j + 1) from by have h1 := bWrap_len k l mk rule lev fr2 tz HRi.out; rw [hp] at h1; simp only at h1; have := HLn.out; omega)
              have HLq := Lib.hid (show l.length + 1 ≤ 100000 from by omega)
              clear hp
              go_upto_region 17 with (fail)
              refine wp_region_held_drew (S := fun u2 => u2.heap[XD]? = some (.cells #[.int .i64 1, .int .i64 mk, .int .i64 rule, .int .i64 lev, .int .i64 fr2, .int .i64 tz, .slice ta q tc] 50 (0, 0))) (by kernel_rfl) ((HSd.out.kn _ (.tail _ (.head _))).1) (fun hS => ?_)
              refine wpAnyH_take (i := 0) (oi := ⟨_, _, _, _, _, _⟩) (v := ?v8) rfl (by kernel_rfl) (by kernel_rfl) (by kernel_rfl) (fun _ _ _ h => h) ?y8 hS ?_
              case y8 => first | (refine Or.inr ⟨by rfl, ?_⟩; with_reducible rfl) | (refine Or.inl ⟨by rfl, ?_⟩; intro wS hSw; obtain ⟨z0, z1, z2, z3, z4, z5, z6⟩ := seven_box hSw; go_simp; try with_reducible rfl)
              simp only [Act.put, List.setIfInBounds_toArray, List.set_cons_zero, List.set_cons_succ]
              refine wpAnyH_take (i := 1) (oi := ⟨_, _, _, _, _, _⟩) (v := ?v9) rfl (by kernel_rfl) (by kernel_rfl) (by kernel_rfl) (fun _ _ _ h => h) ?y9 hS ?_
              case y9 => first | (refine Or.inr ⟨by rfl, ?_⟩; with_reducible rfl) | (refine Or.inl ⟨by rfl, ?_⟩; intro wS hSw; obtain ⟨z0, z1, z2, z3, z4, z5, z6⟩ := seven_box hSw; go_simp; try with_reducible rfl)
              simp only [Act.put, List.setIfInBounds_toArray, List.set_cons_zero, List.set_cons_succ]
              refine wpAnyH_take (i := 2) (oi := ⟨_, _, _, _, _, _⟩) (v := ?v10) rfl (by kernel_rfl) (by kernel_rfl) (by kernel_rfl) (fun _ _ _ h => h) ?y10 hS ?_
              case y10 => first | (refine Or.inr ⟨by rfl, ?_⟩; with_reducible rfl) | (refine Or.inl ⟨by rfl, ?_⟩; intro wS hSw; obtain ⟨z0, z1, z2, z3, z4, z5, z6⟩ := seven_box hSw; go_simp; try with_reducible rfl)
              simp only [Act.put, List.setIfInBounds_toArray, List.set_cons_zero, List.set_cons_succ]
              refine wpAnyH_take (i := 3) (oi := ⟨_, _, _, _, _, _⟩) (v := ?v11) rfl (by kernel_rfl) (by kernel_rfl) (by kernel_rfl) (fun _ _ _ h => h) ?y11 hS ?_
              case y11 => first | (refine Or.inr ⟨by rfl, ?_⟩; with_reducible rfl) | (refine Or.inl ⟨by rfl, ?_⟩; intro wS hSw; obtain ⟨z0, z1, z2, z3, z4, z5, z6⟩ := seven_box hSw; go_simp; try with_reducible rfl)
              simp only [Act.put, List.setIfInBounds_toArray, List.set_cons_zero, List.set_cons_succ]
              refine wpAnyH_take (i := 4) (oi := ⟨_, _, _, _, _, _⟩) (v := ?v12) rfl (by kernel_rfl) (by kernel_rfl) (by kernel_rfl) (fun _ _ _ h => h) ?y12 hS ?_
              case y12 => first | (refine Or.inr ⟨by rfl, ?_⟩; with_reducible rfl) | (refine Or.inl ⟨by rfl, ?_⟩; intro wS hSw; obtain ⟨z0, z1, z2, z3, z4, z5, z6⟩ := seven_box hSw; go_simp; try with_reducible rfl)
              simp only [Act.put, List.setIfInBounds_toArray, List.set_cons_zero, List.set_cons_succ]
              refine wpAnyH_take (i := 5) (oi := ⟨_, _, _, _, _, _⟩) (v := ?v13) rfl (by kernel_rfl) (by kernel_rfl) (by kernel_rfl) (fun _ _ _ h => h) ?y13 hS ?_
              case y13 => first | (refine Or.inr ⟨by rfl, ?_⟩; with_reducible rfl) | (refine Or.inl ⟨by rfl, ?_⟩; intro wS hSw; obtain ⟨z0, z1, z2, z3, z4, z5, z6⟩ := seven_box hSw; go_simp; try with_reducible rfl)
              simp only [Act.put, List.setIfInBounds_toArray, List.set_cons_zero, List.set_cons_succ]
              refine wpAnyH_take (i := 6) (oi := ⟨_, _, _, _, _, _⟩) (v := ?v14) rfl (by kernel_rfl) (by kernel_rfl) (by kernel_rfl) (fun _ _ _ h => h) ?y14 hS ?_
              case y14 => first | (refine Or.inr ⟨by rfl, ?_⟩; with_reducible rfl) | (refine Or.inl ⟨by rfl, ?_⟩; intro wS hSw; obtain ⟨z0, z1, z2, z3, z4, z5, z6⟩ := seven_box hSw; go_simp; try with_reducible rfl)
              simp only [Act.put, List.setIfInBounds_toArray, List.set_cons_zero, List.set_cons_succ]
              refine wpAnyH_take (i := 7) (oi := ⟨_, _, _, _, _, _⟩) (v := ?v15) rfl (by kernel_rfl) (by kernel_rfl) (by kernel_rfl) (fun _ _ _ h => h) ?y15 hS ?_
              case y15 => first | (refine Or.inr ⟨by rfl, ?_⟩; with_reducible rfl) | (refine Or.inl ⟨by rfl, ?_⟩; intro wS hSw; obtain ⟨z0, z1, z2, z3, z4, z5, z6⟩ := seven_box hSw; go_simp; try with_reducible rfl)
              simp only [Act.put, List.setIfInBounds_toArray, List.set_cons_zero, List.set_cons_succ]
              refine wpAnyH_take (i := 8) (oi := ⟨_, _, _, _, _, _⟩) (v := ?v16) rfl (by kernel_rfl) (by kernel_rfl) (by kernel_rfl) (fun _ _ _ h => h) ?y16 hS ?_
              case y16 => first | (refine Or.inr ⟨by rfl, ?_⟩; with_reducible rfl) | (refine Or.inl ⟨by rfl, ?_⟩; intro wS hSw; obtain ⟨z0, z1, z2, z3, z4, z5, z6⟩ := seven_box hSw; go_simp; try with_reducible rfl)
              simp only [Act.put, List.setIfInBounds_toArray, List.set_cons_zero, List.set_cons_succ]
              refine wpAnyH_take (i := 10) (oi := ⟨_, _, _, _, _, _⟩) (v := ?v17) rfl (by kernel_rfl) (by kernel_rfl) (by kernel_rfl) (fun _ _ _ h => h) ?y17 hS ?_
              case y17 => first | (refine Or.inr ⟨by rfl, ?_⟩; with_reducible rfl) | (refine Or.inl ⟨by rfl, ?_⟩; intro wS hSw; obtain ⟨z0, z1, z2, z3, z4, z5, z6⟩ := seven_box hSw; go_simp; try with_reducible rfl)
              simp only [Act.put, List.setIfInBounds_toArray, List.set_cons_zero, List.set_cons_succ]
              refine wpAnyH_take (i := 11) (oi := ⟨_, _, _, _, _, _⟩) (v := ?v18) rfl (by kernel_rfl) (by kernel_rfl) (by kernel_rfl) (fun _ _ _ h => h) ?y18 hS ?_
              case y18 => first | (refine Or.inr ⟨by rfl, ?_⟩; with_reducible rfl) | (refine Or.inl ⟨by rfl, ?_⟩; intro wS hSw; obtain ⟨z0, z1, z2, z3, z4, z5, z6⟩ := seven_box hSw; go_simp; try with_reducible rfl)
              simp only [Act.put, List.setIfInBounds_toArray, List.set_cons_zero, List.set_cons_succ]
              refine wpAnyH_take (i := 12) (oi := ⟨_, _, _, _, _, _⟩) (v := ?v19) rfl (by kernel_rfl) (by kernel_rfl) (by kernel_rfl) (fun _ _ _ h => h) ?y19 hS ?_
              case y19 => first | (refine Or.inr ⟨by rfl, ?_⟩; with_reducible rfl) | (refine Or.inl ⟨by rfl, ?_⟩; intro wS hSw; obtain ⟨z0, z1, z2, z3, z4, z5, z6⟩ := seven_box hSw; go_simp; try with_reducible rfl)
              simp only [Act.put, List.setIfInBounds_toArray, List.set_cons_zero, List.set_cons_succ]
              refine wpAnyH_take (i := 13) (oi := ⟨_, _, _, _, _, _⟩) (v := ?v20) rfl (by kernel_rfl) (by kernel_rfl) (by kernel_rfl) (fun _ _ _ h => h) ?y20 hS ?_
              case y20 => first | (refine Or.inr ⟨by rfl, ?_⟩; with_reducible rfl) | (refine Or.inl ⟨by rfl, ?_⟩; intro wS hSw; obtain ⟨z0, z1, z2, z3, z4, z5, z6⟩ := seven_box hSw; go_simp; try with_reducible rfl)
              simp only [Act.put, List.setIfInBounds_toArray, List.set_cons_zero, List.set_cons_succ]
              refine wpAnyH_take (i := 14) (oi := ⟨_, _, _, _, _, _⟩) (v := ?v21) rfl (by kernel_rfl) (by kernel_rfl) (by kernel_rfl) (fun _ _ _ h => h) ?y21 hS ?_
              case y21 => first | (refine Or.inr ⟨by rfl, ?_⟩; with_reducible rfl) | (refine Or.inl ⟨by rfl, ?_⟩; intro wS hSw; obtain ⟨z0, z1, z2, z3, z4, z5, z6⟩ := seven_box hSw; go_simp; try with_reducible rfl)
              simp only [Act.put, List.setIfInBounds_toArray, List.set_cons_zero, List.set_cons_succ]
              refine wpAnyH_take (i := 15) (oi := ⟨_, _, _, _, _, _⟩) (v := ?v22) rfl (by kernel_rfl) (by kernel_rfl) (by kernel_rfl) (fun _ _ _ h => h) ?y22 hS ?_
              case y22 => first | (refine Or.inr ⟨by rfl, ?_⟩; with_reducible rfl) | (refine Or.inl ⟨by rfl, ?_⟩; intro wS hSw; obtain ⟨z0, z1, z2, z3, z4, z5, z6⟩ := seven_box hSw; go_simp; try with_reducible rfl)
              simp only [Act.put, List.setIfInBounds_toArray, List.set_cons_zero, List.set_cons_succ]
              refine wpAnyH_take (i := 16) (oi := ⟨_, _, _, _, _, _⟩) (v := ?v23) rfl (by kernel_rfl) (by kernel_rfl) (by kernel_rfl) (fun _ _ _ h => h) ?y23 hS ?_
              case y23 => first | (refine Or.inr ⟨by rfl, ?_⟩; with_reducible rfl) | (refine Or.inl ⟨by rfl, ?_⟩; intro wS hSw; obtain ⟨z0, z1, z2, z3, z4, z5, z6⟩ := seven_box hSw; go_simp; try with_reducible rfl)
              simp only [Act.put, List.setIfInBounds_toArray, List.set_cons_zero, List.set_cons_succ]
              refine wpAnyH_take (i := 17) (oi := ⟨_, _, _, _, _, _⟩) (v := ?v24) rfl (by kernel_rfl) (by kernel_rfl) (by kernel_rfl) (fun _ _ _ h => h) ?y24 hS ?_
              case y24 => first | (refine Or.inr ⟨by rfl, ?_⟩; with_reducible rfl) | (refine Or.inl ⟨by rfl, ?_⟩; intro wS hSw; obtain ⟨z0, z1, z2, z3, z4, z5, z6⟩ := seven_box hSw; go_simp; try with_reducible rfl)
              simp only [Act.put, List.setIfInBounds_toArray, List.set_cons_zero, List.set_cons_succ]
              refine wpAnyH_take (i := 18) (oi := ⟨_, _, _, _, _, _⟩) (v := ?v25) rfl (by kernel_rfl) (by kernel_rfl) (by kernel_rfl) (fun _ _ _ h => h) ?y25 hS ?_
              case y25 => first | (refine Or.inr ⟨by rfl, ?_⟩; with_reducible rfl) | (refine Or.inl ⟨by rfl, ?_⟩; intro wS hSw; obtain ⟨z0, z1, z2, z3, z4, z5, z6⟩ := seven_box hSw; go_simp; try with_reducible rfl)
              simp only [Act.put, List.setIfInBounds_toArray, List.set_cons_zero, List.set_cons_succ]
              refine wpAnyH_ready (rs := [9]) (by kernel_rfl) (by simp) ?_
              refine AllReadyH.cons (o := ⟨_, _, _, _, _, _⟩) rfl (fun K hK => ?_) AllReadyH.nil
              go_simp
              refine (bsWrap mk rule lev fr2 tz HSd.out HLq.out htz HP.out).mono ?_
              rintro e wx ⟨rfl, v2, hA⟩; have HSA := Lib.hid hA; have hS := (HSA.out.kn _ (.tail _ (.head _))).1; clear hA
              go_wp2_with fail
              refine hK.out _ _ hS (fun _ => ?_)
              clear hK K
              try simp only [Act.put, List.setIfInBounds_toArray, List.set_cons_zero, List.set_cons_succ]
              refine wpAnyH_ready (rs := [19]) (by kernel_rfl) (by simp) ?_
              refine AllReadyH.cons (o := ⟨_, _, _, _, _, _⟩) rfl (fun K hK => ?_) AllReadyH.nil
              go_simp
              refine (bsWrapD mk rule lev fr2 tz HSA.out HRi.out HLq.out htz HP.out).mono ?_
              rintro e wx ⟨rfl, vr2, hA⟩; have HSB := Lib.hid hA; have hS := (HSB.out.kn _ (.tail _ (.head _))).1; clear hA
              go_wp2_with fail
              refine hK.out _ _ hS (fun _ => ?_)
              clear hK K
              try simp only [Act.put, List.setIfInBounds_toArray, List.set_cons_zero, List.set_cons_succ]
              refine wpAnyH_take (i := 20) (oi := ⟨_, _, _, _, _, _⟩) (v := ?v26) rfl (by kernel_rfl) (by kernel_rfl) (by kernel_rfl) (fun _ _ _ h => h) ?y26 hS ?_
              case y26 => first | (refine Or.inr ⟨by rfl, ?_⟩; with_reducible rfl) | (refine Or.inl ⟨by rfl, ?_⟩; intro wS hSw; obtain ⟨z0, z1, z2, z3, z4, z5, z6⟩ := seven_box hSw; go_simp; try with_reducible rfl)
              simp only [Act.put, List.setIfInBounds_toArray, List.set_cons_zero, List.set_cons_succ]
              refine wpAnyH_take (i := 21) (oi := ⟨_, _, _, _, _, _⟩) (v := ?v27) rfl (by kernel_rfl) (by kernel_rfl) (by kernel_rfl) (fun _ _ _ h => h) ?y27 hS ?_
              case y27 => first | (refine Or.inr ⟨by rfl, ?_⟩; with_reducible rfl) | (refine Or.inl ⟨by rfl, ?_⟩; intro wS hSw; obtain ⟨z0, z1, z2, z3, z4, z5, z6⟩ := seven_box hSw; go_simp; try with_reducible rfl)
              simp only [Act.put, List.setIfInBounds_toArray, List.set_cons_zero, List.set_cons_succ]
              refine wpAnyH_done (by kernel_rfl) ?_ _
              clear hS x0 x1 x2 x3 x4 x5 x6
              obtain ⟨x0, x1, x2, x3, x4, x5, x6⟩ := seven_box (HSB.out.kn _ (.tail _ (.head _))).1
              have HT7 := Lib.hid ((show TwAt w _ t from HTt.out).later HSB.out.bl)
              have HKe := Lib.hid (keptTwigs_any _ t g _ HT7.out (show TLentAt _ g t from (HSB.out.kn _ (.head _)).1) (by rw [← HQ.out]; omega))
              rw [← HQ.out] at HKe
              go_wp2_with fail
              refine HKe.out.mono ?_
              rintro e w8 ⟨rfl, hb⟩
              have HS8 := Lib.hid (HSB.out.later hb)
              have HOv := Lib.hid (overTwigs_any q g _ w8 (HS8.out.kn _ (.head _)).1 (by simp [tmk_len, flat_len twc_len, ← HQ.out]) (by omega))
              clear hb x0 x1 x2 x3 x4 x5 x6 HKe
              go_wp2_with fail
              refine HOv.out.mono ?_
              rintro e w9 ⟨rfl, hk⟩
              have HS9 := Lib.hid (HS8.out.over hk (fun q hq => by simp only [List.mem_singleton] at hq; subst hq; exact HXg.out))
              clear hk HOv
              obtain ⟨x0, x1, x2, x3, x4, x5, x6⟩ := seven_box (HS9.out.kn _ (.head _)).1
              go_wp2_with fail
              refine (same_any mk w9 HS9.out.bu HS9.out.dc).mono ?_
              rintro e w10 ⟨rfl, hb⟩
              have HSx := Lib.hid (HS9.out.later hb).free
              clear hb x0 x1 x2 x3 x4 x5 x6
              go_wp2
              go_roundw
              case rel => exact ⟨j + 1, _, _, _, _, by omega, by go_num, HSx, HLe1.out⟩
              case measure => simp [intOf]; omega
            · obtain ⟨c, l1, hp⟩ : ∃ c l1, bBack l mk = (c, l1) := ⟨_, _, rfl⟩
              have HP := Lib.hid hp
              have HLe1 := Lib.hid (show l1.length ≤ sumD (L.take (j + 1)) + (j + 1) from by have h1 := bBack_len l mk; rw [hp] at h1; simp only at h1; have := HLn.out; omega)
              clear hp
              go_upto_region 19 with (fail)
              refine wp_region_held_drew (S := fun u2 => u2.heap[XD]? = some (.cells #[.int .i64 2, .int .i64 mk, .int .i64 rule, .int .i64 lev, .int .i64 fr2, .int .i64 tz, .slice ta q tc] 50 (0, 0))) (by kernel_rfl) ((HSd.out.kn _ (.tail _ (.head _))).1) (fun hS => ?_)
              refine wpAnyH_take (i := 0) (oi := ⟨_, _, _, _, _, _⟩) (v := ?v28) rfl (by kernel_rfl) (by kernel_rfl) (by kernel_rfl) (fun _ _ _ h => h) ?y28 hS ?_
              case y28 => first | (refine Or.inr ⟨by rfl, ?_⟩; with_reducible rfl) | (refine Or.inl ⟨by rfl, ?_⟩; intro wS hSw; obtain ⟨z0, z1, z2, z3, z4, z5, z6⟩ := seven_box hSw; go_simp; try with_reducible rfl)
              simp only [Act.put, List.setIfInBounds_toArray, List.set_cons_zero, List.set_cons_succ]
              refine wpAnyH_take (i := 1) (oi := ⟨_, _, _, _, _, _⟩) (v := ?v29) rfl (by kernel_rfl) (by kernel_rfl) (by kernel_rfl) (fun _ _ _ h => h) ?y29 hS ?_
              case y29 => first | (refine Or.inr ⟨by rfl, ?_⟩; with_reducible rfl) | (refine Or.inl ⟨by rfl, ?_⟩; intro wS hSw; obtain ⟨z0, z1, z2, z3, z4, z5, z6⟩ := seven_box hSw; go_simp; try with_reducible rfl)
              simp only [Act.put, List.setIfInBounds_toArray, List.set_cons_zero, List.set_cons_succ]
              refine wpAnyH_take (i := 2) (oi := ⟨_, _, _, _, _, _⟩) (v := ?v30) rfl (by kernel_rfl) (by kernel_rfl) (by kernel_rfl) (fun _ _ _ h => h) ?y30 hS ?_
              case y30 => first | (refine Or.inr ⟨by rfl, ?_⟩; with_reducible rfl) | (refine Or.inl ⟨by rfl, ?_⟩; intro wS hSw; obtain ⟨z0, z1, z2, z3, z4, z5, z6⟩ := seven_box hSw; go_simp; try with_reducible rfl)
              simp only [Act.put, List.setIfInBounds_toArray, List.set_cons_zero, List.set_cons_succ]
              refine wpAnyH_take (i := 4) (oi := ⟨_, _, _, _, _, _⟩) (v := ?v31) rfl (by kernel_rfl) (by kernel_rfl) (by kernel_rfl) (fun _ _ _ h => h) ?y31 hS ?_
              case y31 => first | (refine Or.inr ⟨by rfl, ?_⟩; with_reducible rfl) | (refine Or.inl ⟨by rfl, ?_⟩; intro wS hSw; obtain ⟨z0, z1, z2, z3, z4, z5, z6⟩ := seven_box hSw; go_simp; try with_reducible rfl)
              simp only [Act.put, List.setIfInBounds_toArray, List.set_cons_zero, List.set_cons_succ]
              refine wpAnyH_take (i := 5) (oi := ⟨_, _, _, _, _, _⟩) (v := ?v32) rfl (by kernel_rfl) (by kernel_rfl) (by kernel_rfl) (fun _ _ _ h => h) ?y32 hS ?_
              case y32 => first | (refine Or.inr ⟨by rfl, ?_⟩; with_reducible rfl) | (refine Or.inl ⟨by rfl, ?_⟩; intro wS hSw; obtain ⟨z0, z1, z2, z3, z4, z5, z6⟩ := seven_box hSw; go_simp; try with_reducible rfl)
              simp only [Act.put, List.setIfInBounds_toArray, List.set_cons_zero, List.set_cons_succ]
              refine wpAnyH_take (i := 6) (oi := ⟨_, _, _, _, _, _⟩) (v := ?v33) rfl (by kernel_rfl) (by kernel_rfl) (by kernel_rfl) (fun _ _ _ h => h) ?y33 hS ?_
              case y33 => first | (refine Or.inr ⟨by rfl, ?_⟩; with_reducible rfl) | (refine Or.inl ⟨by rfl, ?_⟩; intro wS hSw; obtain ⟨z0, z1, z2, z3, z4, z5, z6⟩ := seven_box hSw; go_simp; try with_reducible rfl)
              simp only [Act.put, List.setIfInBounds_toArray, List.set_cons_zero, List.set_cons_succ]
              refine wpAnyH_ready (rs := [3]) (by kernel_rfl) (by simp) ?_
              refine AllReadyH.cons (o := ⟨_, _, _, _, _, _⟩) rfl (fun K hK => ?_) AllReadyH.nil
              go_simp
              refine (bsBack mk HSd.out HP.out).mono ?_
              rintro e wx ⟨rfl, v2, hA⟩; have HSA := Lib.hid hA; have hS := (HSA.out.kn _ (.tail _ (.head _))).1; clear hA
              go_wp2_with fail
              refine hK.out _ _ hS (fun _ => ?_)
              clear hK K
              try simp only [Act.put, List.setIfInBounds_toArray, List.set_cons_zero, List.set_cons_succ]
              refine wpAnyH_ready (rs := [7]) (by kernel_rfl) (by simp) ?_
              refine AllReadyH.cons (o := ⟨_, _, _, _, _, _⟩) rfl (fun K hK => ?_) AllReadyH.nil
              go_simp
              refine (bsBackD mk HSA.out HRi.out HP.out).mono ?_
              rintro e wx ⟨rfl, vr2, hA⟩; have HSB := Lib.hid hA; have hS := (HSB.out.kn _ (.tail _ (.head _))).1; clear hA
              go_wp2_with fail
              refine hK.out _ _ hS (fun _ => ?_)
              clear hK K
              try simp only [Act.put, List.setIfInBounds_toArray, List.set_cons_zero, List.set_cons_succ]
              refine wpAnyH_take (i := 8) (oi := ⟨_, _, _, _, _, _⟩) (v := ?v34) rfl (by kernel_rfl) (by kernel_rfl) (by kernel_rfl) (fun _ _ _ h => h) ?y34 hS ?_
              case y34 => first | (refine Or.inr ⟨by rfl, ?_⟩; with_reducible rfl) | (refine Or.inl ⟨by rfl, ?_⟩; intro wS hSw; obtain ⟨z0, z1, z2, z3, z4, z5, z6⟩ := seven_box hSw; go_simp; try with_reducible rfl)
              simp only [Act.put, List.setIfInBounds_toArray, List.set_cons_zero, List.set_cons_succ]
              refine wpAnyH_take (i := 9) (oi := ⟨_, _, _, _, _, _⟩) (v := ?v35) rfl (by kernel_rfl) (by kernel_rfl) (by kernel_rfl) (fun _ _ _ h => h) ?y35 hS ?_
              case y35 => first | (refine Or.inr ⟨by rfl, ?_⟩; with_reducible rfl) | (refine Or.inl ⟨by rfl, ?_⟩; intro wS hSw; obtain ⟨z0, z1, z2, z3, z4, z5, z6⟩ := seven_box hSw; go_simp; try with_reducible rfl)
              simp only [Act.put, List.setIfInBounds_toArray, List.set_cons_zero, List.set_cons_succ]
              refine wpAnyH_done (by kernel_rfl) ?_ _
              clear hS x0 x1 x2 x3 x4 x5 x6
              obtain ⟨x0, x1, x2, x3, x4, x5, x6⟩ := seven_box (HSB.out.kn _ (.tail _ (.head _))).1
              have HT7 := Lib.hid ((show TwAt w _ t from HTt.out).later HSB.out.bl)
              have HKe := Lib.hid (keptTwigs_any _ t g _ HT7.out (show TLentAt _ g t from (HSB.out.kn _ (.head _)).1) (by rw [← HQ.out]; omega))
              rw [← HQ.out] at HKe
              go_wp2_with fail
              refine HKe.out.mono ?_
              rintro e w8 ⟨rfl, hb⟩
              have HS8 := Lib.hid (HSB.out.later hb)
              have HOv := Lib.hid (overTwigs_any q g _ w8 (HS8.out.kn _ (.head _)).1 (by simp [tmk_len, flat_len twc_len, ← HQ.out]) (by omega))
              clear hb x0 x1 x2 x3 x4 x5 x6 HKe
              go_wp2_with fail
              refine HOv.out.mono ?_
              rintro e w9 ⟨rfl, hk⟩
              have HS9 := Lib.hid (HS8.out.over hk (fun q hq => by simp only [List.mem_singleton] at hq; subst hq; exact HXg.out))
              clear hk HOv
              obtain ⟨x0, x1, x2, x3, x4, x5, x6⟩ := seven_box (HS9.out.kn _ (.head _)).1
              go_wp2_with fail
              refine (same_any mk w9 HS9.out.bu HS9.out.dc).mono ?_
              rintro e w10 ⟨rfl, hb⟩
              have HSx := Lib.hid (HS9.out.later hb).free
              clear hb x0 x1 x2 x3 x4 x5 x6
              go_wp2
              go_roundw
              case rel => exact ⟨j + 1, _, _, _, _, by omega, by go_num, HSx, HLe1.out⟩
              case measure => simp [intOf]; omega
          · have hlt' : ¬ (j : Int) < n := by omega
            go_wp2_with fail
            refine (HAw.out _).mono ?_
            rintro e w9 ⟨rfl, hb⟩
            go_wp2
            go_ret
            exact ⟨rfl, HS.out.bl.trans (hb.mono HS.out.bl.size)⟩
    · have h120' : (120 : Int) < s := by omega
      go_wp2_with fail
      refine (HAw.out _).mono ?_
      rintro e w2 ⟨rfl, hb⟩
      go_wp2
      go_ret
      exact ⟨rfl, hb⟩
  · have h60' : (60 : Int) < n := by omega
    go_enter Tryz.func32, Tryz.ntmps32
    go_wp2_with fail
    refine (HAw.out _).mono ?_
    rintro e w2 ⟨rfl, hb⟩
    go_wp2
    go_ret
    exact ⟨rfl, hb⟩
end Go.Proofs.YtadkjjpopmiceaaGreat
