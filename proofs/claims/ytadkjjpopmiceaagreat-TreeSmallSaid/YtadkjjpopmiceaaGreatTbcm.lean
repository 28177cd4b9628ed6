import Derived.Test.YtadkjjpopmiceaaGreatTbbm
namespace Go.Proofs.YtadkjjpopmiceaaGreat
open Go.RowKit Go.Lib

def kidsM (l : List Tw) (n : Int) : Nat := ((topR l).filter fun x : Nat => decide (n ≤ (x : Int))).length
def wrapL (l : List Tw) (m : Nat) (t : Tw) : List Tw := l.take m ++ t :: l.drop m
def bWrap (most : Nat) (l : List Tw) (n rule lev fr tz : Int) : Int × List Tw :=
  if isMark l n = true then (if rightB (wrapL l n.toNat ⟨rule, lev, fr, tz, kidsM l n⟩) = true then (if l.length + 1 ≤ most then (0, wrapL l n.toNat ⟨rule, lev, fr, tz, kidsM l n⟩) else (12, l)) else (4, l)) else (2, l)
theorem wrapL_len {l : List Tw} {m : Nat} {t : Tw} (h : m ≤ l.length) : (wrapL l m t).length = l.length + 1 := by
  simp [wrapL]
  omega
theorem kidsM_of {l : List Tw} {m : Nat} (h : rightB l = true) (hm : isMark l m = true) : ∃ a' r2, For l 0 9223372036854775807 a' m l.length r2 ∧ kidsM l m = r2.length := by
  obtain ⟨r1, r2, a', e1, e2, e3, -, e5⟩ := For.at_mark h hm
  refine ⟨a', r2, e5, ?_⟩
  unfold kidsM
  rw [e1, List.filter_append, List.length_append]
  rw [List.filter_eq_nil_iff.2 (fun x hx => by have := e2 x hx; simp; omega), List.filter_eq_self.2 (fun x hx => by have := e3 x hx; simp; omega)]
  simp
theorem stRoom {B : Nat} {b x : Nat} {v : Value} {l : List Tw} {most peak : Nat} (n : Int) (w : World) (h : BuI B w b x v l most peak) :
    Calls Tryz.prog 81 #[.agg #[.pointer (some ⟨x, 0, none⟩)], .int .i64 n] w fun e w' => e = .returned (.bool (decide (n ≤ (most : Int) - l.length))) ∧ Below w.heap.size w w' := by
  have hal : Below w.heap.size w (w.alloc (.cells #[.pointer (some ⟨x, 0, none⟩)] 107)) := (Below.refl _ _).alloc (Nat.le_refl _) _
  have HL := Lib.hid (arLeft _ (h.ar.later hal))
  have HAl := Lib.hid hal
  obtain ⟨q, hq⟩ : ∃ q, q = (most : Int) - l.length := ⟨_, rfl⟩
  rw [← hq] at HL ⊢
  clear h hal hq
  go_enter Tryz.func81, Tryz.ntmps81
  go_wp2_with fail
  refine HL.out.mono ?_
  rintro e w1 ⟨rfl, m, rfl⟩
  go_wp2
  go_ret
  exact ⟨rfl, below_draws HAl.out m⟩
set_option maxRecDepth 100000 in
set_option maxHeartbeats 8000000 in
theorem buWrap {B : Nat} {b x : Nat} {v : Value} {l : List Tw} {most peak : Nat} (n rule lev fr tz : Int) (w : World) (h : BuI B w b x v l most peak) (hl : l.length + 1 ≤ 100000) (hto : tz ≤ 9223372036854775807) :
    Calls Tryz.prog 37 #[.pointer (some ⟨b, 0, none⟩), .int .i64 n, .int .i64 rule, .int .i64 lev, .agg #[.int .i64 fr, .int .i64 tz]] w fun e w' => e = .returned (.int .i64 (bWrap most l n rule lev fr tz).1) ∧ BuN B w b x v (bWrap most l n rule lev fr tz).2 most (max peak (bWrap most l n rule lev fr tz).2.length) w' := by
  have HH := Lib.hid h
  have hpk : max peak l.length = peak := by have := h.ar.2.2.2.2.2; omega
  have HPk := Lib.hid hpk
  clear h hpk
  go_enter Tryz.func37, Tryz.ntmps37
  go_upto_region 1 with (fail)
  refine gen_world (S := fun u => Below w.heap.size w u ∧ u.heap[w.heap.size]? = some (.cells #[.int .i64 fr, .int .i64 tz] 43 (0, 0))) (one_new w _) (fun u hu => ?_)
  obtain ⟨hb0, hx⟩ := hu
  obtain ⟨X, hX⟩ : ∃ X, X = w.heap.size := ⟨_, rfl⟩
  have HB0 := Lib.hid hb0
  rw [← hX] at hx ⊢
  have HX := Lib.hid hx
  have HH0 := Lib.hid (HH.out.later hb0)
  have HM := Lib.hid (buMade u HH0.out)
  have HMk := Lib.hid (stMark n u HH0.out)
  have c0 := (block_cell' HH0.out.blk 0).1
  clear hb0 hx hX
  cases hm : isMark l n
  · have HP := Lib.hid (show bWrap most l n rule lev fr tz = (2, l) from by unfold bWrap; rw [hm]; rfl)
    rw [hm] at HMk
    clear hm
    go_wp2_with fail
    refine HM.out.mono ?_
    rintro e w' ⟨rfl, rfl⟩
    go_wp2_with fail
    refine HMk.out.mono ?_
    rintro e w1 ⟨rfl, hb⟩
    go_wp2
    go_ret
    rw [HP.out]
    simp only
    rw [HPk.out]
    exact ⟨rfl, BuN.self HH.out (HB0.out.trans (hb.mono HB0.out.size))⟩
  · obtain ⟨m, rfl, hml⟩ := mark_le hm HH.out.right
    obtain ⟨a', r2, hF, hkm⟩ := kidsM_of HH.out.right hm
    have hrl := hF.len_le
    have HF := Lib.hid hF
    have HMm := Lib.hid hm
    have HKm := Lib.hid hkm
    rw [hm] at HMk
    obtain ⟨len, hle⟩ : ∃ len, len = l.length := ⟨_, rfl⟩
    have HLe := Lib.hid hle
    obtain ⟨kn, hkn⟩ : ∃ kn, kn = r2.length := ⟨_, rfl⟩
    have HKn := Lib.hid hkn
    have hk1 : kn ≤ 1000000 := by omega
    have hml2 : m ≤ len := by omega
    have hl2 : len + 1 ≤ 100000 := by omega
    obtain ⟨i0, hi0, hz0, hz1, hz2⟩ := info_parts Tryz.infoTwig
    clear hm hF hkm hrl hle hkn hml hl
    go_wp2_with fail
    refine HM.out.mono ?_
    rintro e w' ⟨rfl, rfl⟩
    go_wp2_with fail
    refine HMk.out.mono ?_
    rintro e w1 ⟨rfl, hb1⟩
    have HB1 := Lib.hid (HB0.out.trans (hb1.mono HB0.out.size))
    have HH1 := Lib.hid (HH0.out.later hb1)
    have HX1 := Lib.hid ((hb1.block _ (lt_of_block HX.out)).trans HX.out)
    clear c0 hb1
    have c0 := (block_cell' HH1.out.blk 0).1
    have HRo := Lib.hid (rowS_any w1 HH1.out.ar (by have := HH1.out.len; omega))
    go_wp2_with fail
    refine HRo.out.mono ?_
    rintro e w2 ⟨v2, rfl, ho2, hb2⟩
    have HB2 := Lib.hid (HB1.out.trans (hb2.mono HB1.out.size))
    have HS2 := Lib.hid hb2.size
    have HH2 := Lib.hid (HH1.out.later hb2)
    have HX2 := Lib.hid ((hb2.block _ (lt_of_block HX1.out)).trans HX1.out)
    unfold TwOwn at ho2
    rw [← HLe.out] at ho2
    have HO2 := Lib.hid ho2
    obtain ⟨a2, p2, rfl⟩ := own_val ho2
    clear c0 ho2 hb2
    go_upto_region 6 with (fail)
    obtain ⟨s0, s1⟩ := two_box HX2.out
    have HSo := Lib.hid (show ∀ u2, Below w2.heap.size w2 u2 → Calls Tryz.prog 79 #[.slice a2 len p2, .int .i64 m, .int .i64 len] u2 fun en w' => ∃ v', en = .returned v' ∧ OwnN w2.heap.size w' v' r2 ∧ Below w2.heap.size w2 w' ∧ Below u2.heap.size u2 w' from fun u2 hu2 => by
      have := some_any (.slice a2 len p2) u2 (((show TwOwn w1.heap.size w2 _ l from by unfold TwOwn; rw [← HLe.out]; exact HO2.out).tw).later hu2) HF.out (by rw [← HLe.out]; omega) (Nat.le_refl _)
      rw [← HLe.out] at this
      exact this.mono fun en w' hh => by
        obtain ⟨v', h1, h2, h3⟩ := hh
        exact ⟨v', h1, h2.lift hu2.size, hu2.trans (h3.mono hu2.size), h3⟩)
    clear s0 s1
    apply cut_in
    · intro key
      obtain ⟨s0, s1⟩ := two_box HX2.out
      refine wp_region_held_drew (S := fun u2 => Below w2.heap.size w2 u2) (by kernel_rfl) ((Below.refl _ _).drew) (fun hS => ?_)
      refine wpAnyH_take (i := 0) (oi := ⟨_, _, _, _, _, _⟩) (v := ?v1) rfl (by kernel_rfl) (by kernel_rfl) (by kernel_rfl) (fun _ _ _ h => h) ?y1 hS ?_
      case y1 => first | (refine Or.inr ⟨by rfl, ?_⟩; with_reducible rfl) | (refine Or.inl ⟨by rfl, ?_⟩; intro wS hSw; have z0 := cell_later hSw s0; have z1 := cell_later hSw s1; go_simp; try with_reducible rfl)
      simp only [Act.put, List.setIfInBounds_toArray, List.set_cons_zero, List.set_cons_succ]
      refine wpAnyH_take (i := 1) (oi := ⟨_, _, _, _, _, _⟩) (v := ?v2) rfl (by kernel_rfl) (by kernel_rfl) (by kernel_rfl) (fun _ _ _ h => h) ?y2 hS ?_
      case y2 => first | (refine Or.inr ⟨by rfl, ?_⟩; with_reducible rfl) | (refine Or.inl ⟨by rfl, ?_⟩; intro wS hSw; have z0 := cell_later hSw s0; have z1 := cell_later hSw s1; go_simp; try with_reducible rfl)
      simp only [Act.put, List.setIfInBounds_toArray, List.set_cons_zero, List.set_cons_succ]
      refine wpAnyH_take (i := 2) (oi := ⟨_, _, _, _, _, _⟩) (v := ?v3) rfl (by kernel_rfl) (by kernel_rfl) (by kernel_rfl) (fun _ _ _ h => h) ?y3 hS ?_
      case y3 => first | (refine Or.inr ⟨by rfl, ?_⟩; with_reducible rfl) | (refine Or.inl ⟨by rfl, ?_⟩; intro wS hSw; have z0 := cell_later hSw s0; have z1 := cell_later hSw s1; go_simp; try with_reducible rfl)
      simp only [Act.put, List.setIfInBounds_toArray, List.set_cons_zero, List.set_cons_succ]
      refine wpAnyH_take (i := 3) (oi := ⟨_, _, _, _, _, _⟩) (v := ?v4) rfl (by kernel_rfl) (by kernel_rfl) (by kernel_rfl) (fun _ _ _ h => h) ?y4 hS ?_
      case y4 => first | (refine Or.inr ⟨by rfl, ?_⟩; with_reducible rfl) | (refine Or.inl ⟨by rfl, ?_⟩; intro wS hSw; have z0 := cell_later hSw s0; have z1 := cell_later hSw s1; go_simp; try with_reducible rfl)
      simp only [Act.put, List.setIfInBounds_toArray, List.set_cons_zero, List.set_cons_succ]
      refine wpAnyH_take (i := 4) (oi := ⟨_, _, _, _, _, _⟩) (v := ?v5) rfl (by kernel_rfl) (by kernel_rfl) (by kernel_rfl) (fun _ _ _ h => h) ?y5 hS ?_
      case y5 => first | (refine Or.inr ⟨by rfl, ?_⟩; with_reducible rfl) | (refine Or.inl ⟨by rfl, ?_⟩; intro wS hSw; have z0 := cell_later hSw s0; have z1 := cell_later hSw s1; go_simp; try with_reducible rfl)
      simp only [Act.put, List.setIfInBounds_toArray, List.set_cons_zero, List.set_cons_succ]
      refine wpAnyH_take (i := 5) (oi := ⟨_, _, _, _, _, _⟩) (v := ?v6) rfl (by kernel_rfl) (by kernel_rfl) (by kernel_rfl) (fun _ _ _ h => h) ?y6 hS ?_
      case y6 => first | (refine Or.inr ⟨by rfl, ?_⟩; with_reducible rfl) | (refine Or.inl ⟨by rfl, ?_⟩; intro wS hSw; have z0 := cell_later hSw s0; have z1 := cell_later hSw s1; go_simp; try with_reducible rfl)
      simp only [Act.put, List.setIfInBounds_toArray, List.set_cons_zero, List.set_cons_succ]
      refine wpAnyH_take (i := 6) (oi := ⟨_, _, _, _, _, _⟩) (v := ?v7) rfl (by kernel_rfl) (by kernel_rfl) (by kernel_rfl) (fun _ _ _ h => h) ?y7 hS ?_
      case y7 => first | (refine Or.inr ⟨by rfl, ?_⟩; with_reducible rfl) | (refine Or.inl ⟨by rfl, ?_⟩; intro wS hSw; have z0 := cell_later hSw s0; have z1 := cell_later hSw s1; go_simp; try with_reducible rfl)
      simp only [Act.put, List.setIfInBounds_toArray, List.set_cons_zero, List.set_cons_succ]
      refine wpAnyH_ready (rs := [7, 10]) (by kernel_rfl) (by simp) ?_
      refine AllReadyH.cons (o := ⟨_, _, _, _, _, _⟩) rfl (fun K hK => ?_) (AllReadyH.cons (o := ⟨_, _, _, _, _, _⟩) rfl (fun K hK => ?_) AllReadyH.nil)
      · go_simp
        refine (HSo.out _ hS).mono ?_
        rintro e wx ⟨v', rfl, ho, hS, hbb⟩; obtain ⟨ko, kc, rfl⟩ := own_val ho; clear ho; rw [← HKn.out]
        go_wp2_with fail
        refine hK.out _ _ hS (fun _ => ?_)
        clear hK K
        try simp only [Act.put, List.setIfInBounds_toArray, List.set_cons_zero, List.set_cons_succ]
        refine wpAnyH_take (i := 8) (oi := ⟨_, _, _, _, _, _⟩) (v := ?v8) rfl (by kernel_rfl) (by kernel_rfl) (by kernel_rfl) (fun _ _ _ h => h) ?y8 hS ?_
        case y8 => first | (refine Or.inr ⟨by rfl, ?_⟩; with_reducible rfl) | (refine Or.inl ⟨by rfl, ?_⟩; intro wS hSw; have z0 := cell_later hSw s0; have z1 := cell_later hSw s1; go_simp; try with_reducible rfl)
        simp only [Act.put, List.setIfInBounds_toArray, List.set_cons_zero, List.set_cons_succ]
        refine wpAnyH_take (i := 9) (oi := ⟨_, _, _, _, _, _⟩) (v := ?v9) rfl (by kernel_rfl) (by kernel_rfl) (by kernel_rfl) (fun _ _ _ h => h) ?y9 hS ?_
        case y9 => first | (refine Or.inr ⟨by rfl, ?_⟩; with_reducible rfl) | (refine Or.inl ⟨by rfl, ?_⟩; intro wS hSw; have z0 := cell_later hSw s0; have z1 := cell_later hSw s1; go_simp; try with_reducible rfl)
        simp only [Act.put, List.setIfInBounds_toArray, List.set_cons_zero, List.set_cons_succ]
        refine wpAnyH_ready (rs := [10]) (by kernel_rfl) (by simp) ?_
        refine AllReadyH.cons (o := ⟨_, _, _, _, _, _⟩) rfl (fun K hK => ?_) AllReadyH.nil
        go_simp
        refine hK.out _ _ (hS.alloc hS.size _) (fun hS2 => ?_)
        clear hK K
        try simp only [Act.put, List.setIfInBounds_toArray, List.set_cons_zero, List.set_cons_succ]
        refine wpAnyH_ready (rs := [11]) (by kernel_rfl) (by simp) ?_
        refine AllReadyH.cons (o := ⟨_, _, _, _, _, _⟩) rfl (fun K hK => ?_) AllReadyH.nil
        go_simp
        refine hK.out _ _ (hS.alloc hS.size _) (fun hS3 => ?_)
        clear hK K
        try simp only [Act.put, List.setIfInBounds_toArray, List.set_cons_zero, List.set_cons_succ]
        have hY := heap_alloc_new wx (.cells #[.int .i64 rule, .int .i64 lev, .int .i64 fr, .int .i64 tz, .int .i64 (kn : Int)] 45)
        have hW := hS3
        obtain ⟨Y, hYe⟩ : ∃ Y, Y = wx.heap.size := ⟨_, rfl⟩
        rw [← hYe] at hY ⊢
        clear hS hS2 hS3 hYe hbb
        refine wpAnyH_done (by kernel_rfl) ?_ _
        clear s0 s1
        generalize wx.alloc (.cells #[.int .i64 rule, .int .i64 lev, .int .i64 fr, .int .i64 tz, .int .i64 (kn : Int)] 45) = W at hW hY ⊢
        revert kc
        revert ko
        revert hY
        revert hW
        revert W
        revert Y
        exact key
      · go_simp
        refine hK.out _ _ (hS.alloc hS.size _) (fun hS2 => ?_)
        clear hK K
        try simp only [Act.put, List.setIfInBounds_toArray, List.set_cons_zero, List.set_cons_succ]
        have hY0 := heap_alloc_new w2.drew (.cells #[.int .i64 0, .int .i64 0, .int .i64 0, .int .i64 0, .int .i64 0] 45)
        have hYl : w2.heap.size < (w2.drew.alloc (.cells #[.int .i64 0, .int .i64 0, .int .i64 0, .int .i64 0, .int .i64 0] 45)).heap.size := lt_of_block hY0
        refine wpAnyH_ready (rs := [7]) (by kernel_rfl) (by simp) ?_
        refine AllReadyH.cons (o := ⟨_, _, _, _, _, _⟩) rfl (fun K hK => ?_) AllReadyH.nil
        go_simp
        refine (HSo.out _ hS2).mono ?_
        rintro e wx ⟨v', rfl, ho, hS, hbb⟩; obtain ⟨ko, kc, rfl⟩ := own_val ho; clear ho; rw [← HKn.out]
        go_wp2_with fail
        refine hK.out _ _ hS (fun _ => ?_)
        clear hK K
        try simp only [Act.put, List.setIfInBounds_toArray, List.set_cons_zero, List.set_cons_succ]
        refine wpAnyH_take (i := 8) (oi := ⟨_, _, _, _, _, _⟩) (v := ?v10) rfl (by kernel_rfl) (by kernel_rfl) (by kernel_rfl) (fun _ _ _ h => h) ?y10 hS ?_
        case y10 => first | (refine Or.inr ⟨by rfl, ?_⟩; with_reducible rfl) | (refine Or.inl ⟨by rfl, ?_⟩; intro wS hSw; have z0 := cell_later hSw s0; have z1 := cell_later hSw s1; go_simp; try with_reducible rfl)
        simp only [Act.put, List.setIfInBounds_toArray, List.set_cons_zero, List.set_cons_succ]
        refine wpAnyH_take (i := 9) (oi := ⟨_, _, _, _, _, _⟩) (v := ?v11) rfl (by kernel_rfl) (by kernel_rfl) (by kernel_rfl) (fun _ _ _ h => h) ?y11 hS ?_
        case y11 => first | (refine Or.inr ⟨by rfl, ?_⟩; with_reducible rfl) | (refine Or.inl ⟨by rfl, ?_⟩; intro wS hSw; have z0 := cell_later hSw s0; have z1 := cell_later hSw s1; go_simp; try with_reducible rfl)
        simp only [Act.put, List.setIfInBounds_toArray, List.set_cons_zero, List.set_cons_succ]
        have hYx2 : wx.heap[w2.heap.size]? = some (.cells #[.int .i64 0, .int .i64 0, .int .i64 0, .int .i64 0, .int .i64 0] 45 (0, 0)) := (hbb.block _ hYl).trans hY0
        have hYs : w2.drew.heap.size = w2.heap.size := rfl
        obtain ⟨y0, y1, y2, y3, y4⟩ := five_box hYx2
        have yf0 := (block_cell' hYx2 0).2
        have yf1 := (block_cell' hYx2 1).2
        have yf2 := (block_cell' hYx2 2).2
        have yf3 := (block_cell' hYx2 3).2
        have yf4 := (block_cell' hYx2 4).2
        clear hbb hYl hY0 hYs
        refine wpAnyH_ready (rs := [11]) (by kernel_rfl) (by simp) ?_
        refine AllReadyH.cons (o := ⟨_, _, _, _, _, _⟩) rfl (fun K hK => ?_) AllReadyH.nil
        go_simp
        refine hK.out _ _ (((((hS.setCell (p := ⟨w2.heap.size, 0, none⟩) (Nat.le_refl _) _).setCell (p := ⟨w2.heap.size, 1, none⟩) (Nat.le_refl _) _).setCell (p := ⟨w2.heap.size, 2, none⟩) (Nat.le_refl _) _).setCell (p := ⟨w2.heap.size, 3, none⟩) (Nat.le_refl _) _).setCell (p := ⟨w2.heap.size, 4, none⟩) (Nat.le_refl _) _) (fun hS3 => ?_)
        clear hK K
        try simp only [Act.put, List.setIfInBounds_toArray, List.set_cons_zero, List.set_cons_succ]
        have hW := hS3
        have hY : (((((wx.setCell ⟨w2.heap.size, 0, none⟩ (.int .i64 rule)).setCell ⟨w2.heap.size, 1, none⟩ (.int .i64 lev)).setCell ⟨w2.heap.size, 2, none⟩ (.int .i64 fr)).setCell ⟨w2.heap.size, 3, none⟩ (.int .i64 tz)).setCell ⟨w2.heap.size, 4, none⟩ (.int .i64 (kn : Int))).heap[w2.heap.size]? = some (.cells #[.int .i64 rule, .int .i64 lev, .int .i64 fr, .int .i64 tz, .int .i64 (kn : Int)] 45 (0, 0)) := block_setCell' (block_setCell' (block_setCell' (block_setCell' (block_setCell' hYx2))))
        clear hS hS2 hS3 hYx2 y0 y1 y2 y3 y4 yf0 yf1 yf2 yf3 yf4
        refine wpAnyH_done (by kernel_rfl) ?_ _
        clear s0 s1
        generalize (((((wx.setCell ⟨w2.heap.size, 0, none⟩ (.int .i64 rule)).setCell ⟨w2.heap.size, 1, none⟩ (.int .i64 lev)).setCell ⟨w2.heap.size, 2, none⟩ (.int .i64 fr)).setCell ⟨w2.heap.size, 3, none⟩ (.int .i64 tz)).setCell ⟨w2.heap.size, 4, none⟩ (.int .i64 (kn : Int))) = W at hW hY ⊢
        obtain ⟨Y, hYe⟩ : ∃ Y, Y = w2.heap.size := ⟨_, rfl⟩
        rw [← hYe] at hY ⊢
        clear hYe
        revert kc
        revert ko
        revert hY
        revert hW
        revert W
        revert Y
        exact key
    · intro Y W hW hY ko kc
      have HW := Lib.hid hW
      have HY := Lib.hid hY
      have HHW := Lib.hid (HH2.out.later hW)
      have HOW := Lib.hid (show W.ownsRow w1.heap.size 45 5 (.slice a2 len p2) len (tvs l) from (Keeps.ofNew hW (fun _ => False)).row HO2.out (fun _ _ h => h))
      have HBW := Lib.hid (HB2.out.trans (hW.mono HB2.out.size))
      have HTg := Lib.hid (show wrapL l m ⟨rule, lev, fr, tz, kn⟩ = l.take m ++ (⟨rule, lev, fr, tz, kn⟩ :: l.drop m) from rfl)
      have HWl := Lib.hid (show (wrapL l m ⟨rule, lev, fr, tz, kn⟩).length = len + 1 from by rw [wrapL_len (by rw [← HLe.out]; exact hml2), HLe.out])
      have HBw := Lib.hid (show bWrap most l m rule lev fr tz = (if rightB (wrapL l m ⟨rule, lev, fr, tz, kn⟩) = true then (if l.length + 1 ≤ most then (0, wrapL l m ⟨rule, lev, fr, tz, kn⟩) else (12, l)) else (4, l)) from by unfold bWrap; rw [HMm.out, if_pos rfl, HKm.out, HKn.out, Int.toNat_natCast])
      have HOk := Lib.hid (show ∀ t ∈ (⟨rule, lev, fr, tz, kn⟩ :: l.drop m : List Tw), twOk t from fun t ht => by
        rcases List.mem_cons.1 ht with rfl | ht
        · exact ⟨hto, by simp only []; omega⟩
        · exact HHW.out.ok t (List.mem_of_mem_drop ht))
      clear hW hY
      cases a2 with
      | none =>
        have hz : len = 0 ∧ p2 = 0 := by
          rcases HOW.out.2 with ⟨h1, -⟩ | ⟨g, cap', cur, h1, -⟩
          · simp at h1; exact h1
          · simp at h1
        obtain ⟨h1, h2⟩ := hz
        subst h1
        subst h2
        obtain rfl : m = 0 := by omega
        have HL0 := Lib.hid (show l = [] from List.eq_nil_of_length_eq_zero HLe.out.symm)
        have HTs := Lib.hid (show TwAt W (.slice none 0 0) (l.drop 0) from by rw [HL0.out]; exact TwAt.nil W)
        have HTp := Lib.hid (show TwAt W (.slice none 0 0) (l.take 0) from by rw [HL0.out]; exact TwAt.nil W)
        obtain ⟨y0, y1, y2, y3, y4⟩ := five_box HY.out
        have hYl := lt_of_block HY.out
        have hal : Below W.heap.size W (W.drew.alloc (.cells #[.int .i64 rule, .int .i64 lev, .int .i64 fr, .int .i64 tz, .int .i64 (kn : Int)] 45)) := ((Below.refl W.heap.size W).drew).alloc (Nat.le_refl _) _
        obtain ⟨-, -, -, hnil, hnews⟩ := rows_news twc_len (by omega) (HTs.out.later hal)
        have hdl : (l.drop 0).length = 0 := by rw [List.length_drop, ← HLe.out] 
        have Hnil := Lib.hid hnil
        have Hnews := Lib.hid hnews
        have HDl := Lib.hid hdl
        have HAl := Lib.hid hal
        clear hnil hnews hdl hal
        go_upto_region 7 with (fail)
        go_region_law (refine step_append_tu (by rfl) _ _ 22 75 (by rfl) W.heap.size 45 45 i0 _ 5 40 Tryz.underlying22 Tryz.underlying75 hi0 hz0 hz1 hz2 rfl (by decide) (some ⟨W.heap.size, 0, none⟩) 1 1 [.int .i64 rule, .int .i64 lev, .int .i64 fr, .int .i64 tz, .int .i64 (kn : Int)] (by rfl) (own_shut rfl (Nat.le_refl _) (heap_alloc_new W.drew _) (Nat.le_refl _) (by unfold maxLen; omega) rfl rfl) none 0 0 (tvs (l.drop 0)) (by rfl) (fun h => (Hnil.out h).1) (by rw [flat_len twc_len, HDl.out]) Hnews.out (flat_one twc_one _) (by unfold maxLen; omega) (by omega) HAl.out.size ?_; intro v' w3 hown' hgrow; obtain ⟨a3, p3, rfl⟩ := own_val hown')
        all_goals
          have HO3 := Lib.hid (show TwOwn W.heap.size w3 (.slice a3 (1 + 0) p3) (⟨rule, lev, fr, tz, kn⟩ :: l.drop 0) from by
            unfold TwOwn
            rw [List.length_cons, HDl.out, Nat.add_comm 0 1]
            exact hown')
          have HB3 := Lib.hid (show Below W.heap.size W w3 from HAl.out.grown hgrow HAl.out.size (fun r hr => by cases hr; exact Nat.le_refl _))
          have HY3 := Lib.hid ((HB3.out.block _ hYl).trans HY.out)
          have HH3 := Lib.hid (HHW.out.later HB3.out)
          have hal2 := (Below.refl w3.heap.size w3).alloc (Nat.le_refl _) (.cells #[.slice none 0 0, .slice a3 (1 + 0) p3] 75)
          have HAl2 := Lib.hid hal2
          have HC := Lib.hid (concat_any (R := w3.heap.size) (v1 := .slice none 0 0) (v2 := .slice a3 (1 + 0) p3) (l1 := l.take 0) (l2 := ⟨rule, lev, fr, tz, kn⟩ :: l.drop 0) (w3.alloc (.cells #[.slice none 0 0, .slice a3 (1 + 0) p3] 75)) (heap_alloc_new w3 _) ((HTp.out.later HB3.out).later hal2) (HO3.out.tw.later hal2) (by rw [List.length_take]; omega) (by rw [List.length_cons, HDl.out]; omega))
          clear hown' hgrow y0 y1 y2 y3 y4 hal2 hYl
          go_wp2_with fail
          refine HC.out.mono ?_
          rintro e w4 ⟨v4, rfl, ho4, hb4⟩
          have HB4 := Lib.hid (show Below W.heap.size W w4 from HB3.out.trans ((HAl2.out.trans (hb4.mono HAl2.out.size)).mono HB3.out.size))
          have HT4 := Lib.hid (TwRow.own ho4 (fun t ht => (List.mem_append.1 ht).elim (fun h => HHW.out.ok t (List.mem_of_mem_take h)) (HOk.out t)) (by rw [List.length_append, List.length_take, List.length_cons, HDl.out]; omega))
          have HR4 := Lib.hid (right_any v4 _ w4 HT4.out.at' HT4.out.ok HT4.out.len)
          rw [← HTg.out] at HR4
          have HHw4 := Lib.hid (HHW.out.later HB4.out)
          have HO4 := Lib.hid (HO3.out.later (show Below w3.heap.size w3 w4 from HAl2.out.trans (hb4.mono HAl2.out.size)))
          have HBw4 := Lib.hid (HBW.out.trans (HB4.out.mono HBW.out.size))
          obtain ⟨n4, hn4⟩ : ∃ n4, n4 = (l.take 0 ++ (⟨rule, lev, fr, tz, kn⟩ :: l.drop 0 : List Tw)).length := ⟨_, rfl⟩
          unfold TwOwn at ho4
          rw [← hn4] at ho4
          obtain ⟨a4, p4, rfl⟩ := own_val ho4
          clear ho4 hb4 HC hn4
          cases hr : rightB (wrapL l 0 ⟨rule, lev, fr, tz, kn⟩)
          · have HP := Lib.hid (show bWrap most l ((0 : Nat) : Int) rule lev fr tz = (4, l) from by rw [HBw.out, hr]; rfl)
            rw [hr] at HR4
            clear hr
            go_wp2_with fail
            refine HR4.out.mono ?_
            rintro e w5 ⟨rfl, hb5⟩
            go_wp2
            go_ret
            rw [HP.out]
            simp only
            rw [HPk.out]
            exact ⟨rfl, BuN.self HH.out (HBw4.out.trans (hb5.mono HBw4.out.size))⟩
          · have HRi := Lib.hid hr
            rw [hr] at HR4
            clear hr
            go_wp2_with fail
            refine HR4.out.mono ?_
            rintro e w5 ⟨rfl, hb5⟩
            have HB5 := Lib.hid (HBw4.out.trans (hb5.mono HBw4.out.size))
            have HH5 := Lib.hid (HHw4.out.later hb5)
            have HO5 := Lib.hid (HO4.out.later hb5)
            have HWs := Lib.hid (HBW.out.size)
            clear hb5
            have c0 := (block_cell' HH5.out.blk 0).1
            have HRm := Lib.hid (stRoom 1 w5 HH5.out)
            by_cases hmo : l.length + 1 ≤ most
            · have HP := Lib.hid (show bWrap most l ((0 : Nat) : Int) rule lev fr tz = (0, wrapL l 0 ⟨rule, lev, fr, tz, kn⟩) from by rw [HBw.out, HRi.out, if_pos rfl, if_pos hmo])
              have HMo := Lib.hid hmo
              rw [show decide ((1 : Int) ≤ (most : Int) - l.length) = true from by simp; omega] at HRm
              clear hmo
              go_wp2_with fail
              refine HRm.out.mono ?_
              rintro e w6 ⟨rfl, hb6⟩
              have HB6 := Lib.hid (HB5.out.trans (hb6.mono HB5.out.size))
              have HH6 := Lib.hid (HH5.out.later hb6)
              have HO6 := Lib.hid (HO5.out.later hb6)
              clear c0 hb6
              have c0 := (block_cell' HH6.out.blk 0).1
              have HBk := Lib.hid (arBack w6 0 HH6.out.ar (by rw [← HLe.out]; omega))
              go_wp2_with fail
              refine HBk.out.mono ?_
              rintro e w7 ⟨rfl, hn7⟩
              obtain ⟨v7, ha7, hk7, hf7⟩ := hn7
              have HA7 := Lib.hid ha7
              have HK7 := Lib.hid hk7
              have HF7 := Lib.hid hf7
              have hne := HH6.out.ne
              have hb7 := hk7.obj HH6.out.blk (fun hS => by
                rcases hS with hS | hS
                · exact hne.1 hS
                · exact hne.2.1 hS)
              have hlt : ∀ k, (Value.slice a3 (1 + 0) p3).ownBlock = some k → ¬ (k = x ∨ v.ownBlock = some k) := fun k hk hS => by
                have h1 := (HO3.out.lt k hk).1
                have h2 := lt_of_block HH.out.ar.1
                rcases hS with rfl | hS
                · have := HWs.out; omega
                · have := (HH.out.ar.2.1.lt k hS).2; have := HWs.out; omega
              have HO7 := Lib.hid (show TwOwn W.heap.size w7 (.slice a3 (1 + 0) p3) (⟨rule, lev, fr, tz, kn⟩ :: l.drop 0) from hk7.row HO6.out hlt)
              have c0 := (block_cell' hb7 0).1
              have htl : (l.take 0).length = 0 := by rw [List.length_take, ← HLe.out]; omega
              have HTl := Lib.hid htl
              have HPu := Lib.hid (arPut w7 ha7 HO7.out.tw (by rw [htl, List.length_cons, HDl.out]; have := HMo.out; rw [← HLe.out] at this; omega) (by rw [htl, List.length_cons, HDl.out]; omega) (Nat.le_trans HH6.out.bw hk7.size))
              have HB7 := Lib.hid hb7
              clear ha7 hk7 hf7 hne hb7 hlt htl
              go_wp2_with fail
              refine HPu.out.mono ?_
              rintro e w8 ⟨rfl, hn8⟩
              have HN8 := Lib.hid hn8
              clear hn8 c0
              go_wp2
              go_ret
              rw [HP.out]
              refine ⟨rfl, ?_⟩
              have hn8 := HN8.out
              rw [← HTg.out] at hn8
              have hB6 : BuN B w6 b x v (wrapL l 0 ⟨rule, lev, fr, tz, kn⟩) most (max peak (wrapL l 0 ⟨rule, lev, fr, tz, kn⟩).length) w8 := by
                obtain ⟨v8, h1, h2, h3⟩ := hn8
                have hk := HK7.out
                refine BuN.of HH6.out ⟨v8, h1, ⟨h2.os.trans hk.os, h2.tape.trans hk.tape, h2.output.trans hk.output, Nat.le_trans hk.size h2.size, fun k hk1 hn => (h2.block k (Nat.lt_of_lt_of_le hk1 hk.size) (fun hS => ?_)).trans (hk.block k hk1 hn)⟩, fun k hk' => ?_⟩ HRi.out (fun t ht => ?_) (by rw [HWl.out]; exact hl2)
                · rcases hS with hS | hS
                  · exact hn (.inl hS)
                  · rcases HF7.out k hS with h4 | h4
                    · exact hn (.inr h4)
                    · omega
                · rcases h3 k hk' with h4 | h4
                  · exact HF7.out k h4
                  · exact .inr (Nat.le_trans hk.size h4)
                · rw [HTg.out] at ht
                  exact HT4.out.ok t ht
              exact hB6.before HB6.out
            · have HP := Lib.hid (show bWrap most l ((0 : Nat) : Int) rule lev fr tz = (12, l) from by rw [HBw.out, HRi.out, if_pos rfl, if_neg hmo])
              rw [show decide ((1 : Int) ≤ (most : Int) - l.length) = false from by simp; omega] at HRm
              clear hmo
              go_wp2_with fail
              refine HRm.out.mono ?_
              rintro e w6 ⟨rfl, hb6⟩
              go_wp2
              go_ret
              rw [HP.out]
              simp only
              rw [HPk.out]
              exact ⟨rfl, BuN.self HH.out (HB5.out.trans (hb6.mono HB5.out.size))⟩
      | some ad =>
        obtain ⟨g, rfl⟩ : ∃ g, ad = ⟨g, 0, none⟩ := by
          obtain ⟨g', cap', cur, h1, -⟩ := HOW.out.2.resolve_left (fun h => by simp at h)
          simp at h1
          exact ⟨g', h1.1⟩
        have hoc := own_cap HOW.out
        obtain ⟨hc1, hc2⟩ := hoc
        have hmp : (m : Int) ≤ p2 := by omega
        have hml3 : (m : Int) ≤ len := by omega
        have HTp := Lib.hid (show TwAt W (.slice (some ⟨g, 0, none⟩) m p2) (l.take m) from by
          have := own_part HOW.out 0 m 0 p2 (Nat.zero_le _) hml2 (.inr rfl) ⟨by omega, hc2⟩
          simpa using this)
        unfold maxLen at hc2
        by_cases hmc : m = p2
        · have hmn : m = len := by omega
          have HTs := Lib.hid (show TwAt W (.slice (some ⟨g, 0, none⟩) 0 0) (l.drop m) from by
            rw [List.drop_eq_nil_of_le (by rw [← HLe.out]; omega)]
            exact tw_empty W 0 (Nat.zero_le _) g 0 (HOW.out.lt g rfl).2)
          subst hmc
          subst hmn
          obtain ⟨y0, y1, y2, y3, y4⟩ := five_box HY.out
          have hYl := lt_of_block HY.out
          have hal : Below W.heap.size W (W.drew.alloc (.cells #[.int .i64 rule, .int .i64 lev, .int .i64 fr, .int .i64 tz, .int .i64 (kn : Int)] 45)) := ((Below.refl W.heap.size W).drew).alloc (Nat.le_refl _) _
          obtain ⟨-, -, -, hnil, hnews⟩ := rows_news twc_len (by omega) (HTs.out.later hal)
          have hdl : (l.drop m).length = 0 := by rw [List.length_drop, ← HLe.out] ; omega
          have Hnil := Lib.hid hnil
          have Hnews := Lib.hid hnews
          have HDl := Lib.hid hdl
          have HAl := Lib.hid hal
          clear hnil hnews hdl hal
          go_upto_region 7 with (fail)
          go_region_law (refine step_append_tu (by rfl) _ _ 22 75 (by rfl) W.heap.size 45 45 i0 _ 5 40 Tryz.underlying22 Tryz.underlying75 hi0 hz0 hz1 hz2 rfl (by decide) (some ⟨W.heap.size, 0, none⟩) 1 1 [.int .i64 rule, .int .i64 lev, .int .i64 fr, .int .i64 tz, .int .i64 (kn : Int)] (by rfl) (own_shut rfl (Nat.le_refl _) (heap_alloc_new W.drew _) (Nat.le_refl _) (by unfold maxLen; omega) rfl rfl) (some ⟨g, 0, none⟩) 0 0 (tvs (l.drop m)) (by rfl) (fun h => (Hnil.out h).1) (by rw [flat_len twc_len, HDl.out]) Hnews.out (flat_one twc_one _) (by unfold maxLen; omega) (by omega) HAl.out.size ?_; intro v' w3 hown' hgrow; obtain ⟨a3, p3, rfl⟩ := own_val hown')
          all_goals
            have HO3 := Lib.hid (show TwOwn W.heap.size w3 (.slice a3 (1 + 0) p3) (⟨rule, lev, fr, tz, kn⟩ :: l.drop m) from by
              unfold TwOwn
              rw [List.length_cons, HDl.out, Nat.add_comm 0 1]
              exact hown')
            have HB3 := Lib.hid (show Below W.heap.size W w3 from HAl.out.grown hgrow HAl.out.size (fun r hr => by cases hr; exact Nat.le_refl _))
            have HY3 := Lib.hid ((HB3.out.block _ hYl).trans HY.out)
            have HH3 := Lib.hid (HHW.out.later HB3.out)
            have hal2 := (Below.refl w3.heap.size w3).alloc (Nat.le_refl _) (.cells #[.slice (some ⟨g, 0, none⟩) m m, .slice a3 (1 + 0) p3] 75)
            have HAl2 := Lib.hid hal2
            have HC := Lib.hid (concat_any (R := w3.heap.size) (v1 := .slice (some ⟨g, 0, none⟩) m m) (v2 := .slice a3 (1 + 0) p3) (l1 := l.take m) (l2 := ⟨rule, lev, fr, tz, kn⟩ :: l.drop m) (w3.alloc (.cells #[.slice (some ⟨g, 0, none⟩) m m, .slice a3 (1 + 0) p3] 75)) (heap_alloc_new w3 _) ((HTp.out.later HB3.out).later hal2) (HO3.out.tw.later hal2) (by rw [List.length_take]; omega) (by rw [List.length_cons, HDl.out]; omega))
            clear hown' hgrow y0 y1 y2 y3 y4 hal2 hYl
            go_wp2_with fail
            refine HC.out.mono ?_
            rintro e w4 ⟨v4, rfl, ho4, hb4⟩
            have HB4 := Lib.hid (show Below W.heap.size W w4 from HB3.out.trans ((HAl2.out.trans (hb4.mono HAl2.out.size)).mono HB3.out.size))
            have HT4 := Lib.hid (TwRow.own ho4 (fun t ht => (List.mem_append.1 ht).elim (fun h => HHW.out.ok t (List.mem_of_mem_take h)) (HOk.out t)) (by rw [List.length_append, List.length_take, List.length_cons, HDl.out]; omega))
            have HR4 := Lib.hid (right_any v4 _ w4 HT4.out.at' HT4.out.ok HT4.out.len)
            rw [← HTg.out] at HR4
            have HHw4 := Lib.hid (HHW.out.later HB4.out)
            have HO4 := Lib.hid (HO3.out.later (show Below w3.heap.size w3 w4 from HAl2.out.trans (hb4.mono HAl2.out.size)))
            have HBw4 := Lib.hid (HBW.out.trans (HB4.out.mono HBW.out.size))
            obtain ⟨n4, hn4⟩ : ∃ n4, n4 = (l.take m ++ (⟨rule, lev, fr, tz, kn⟩ :: l.drop m : List Tw)).length := ⟨_, rfl⟩
            unfold TwOwn at ho4
            rw [← hn4] at ho4
            obtain ⟨a4, p4, rfl⟩ := own_val ho4
            clear ho4 hb4 HC hn4
            cases hr : rightB (wrapL l m ⟨rule, lev, fr, tz, kn⟩)
            · have HP := Lib.hid (show bWrap most l ((m : Nat) : Int) rule lev fr tz = (4, l) from by rw [HBw.out, hr]; rfl)
              rw [hr] at HR4
              clear hr
              go_wp2_with fail
              refine HR4.out.mono ?_
              rintro e w5 ⟨rfl, hb5⟩
              go_wp2
              go_ret
              rw [HP.out]
              simp only
              rw [HPk.out]
              exact ⟨rfl, BuN.self HH.out (HBw4.out.trans (hb5.mono HBw4.out.size))⟩
            · have HRi := Lib.hid hr
              rw [hr] at HR4
              clear hr
              go_wp2_with fail
              refine HR4.out.mono ?_
              rintro e w5 ⟨rfl, hb5⟩
              have HB5 := Lib.hid (HBw4.out.trans (hb5.mono HBw4.out.size))
              have HH5 := Lib.hid (HHw4.out.later hb5)
              have HO5 := Lib.hid (HO4.out.later hb5)
              have HWs := Lib.hid (HBW.out.size)
              clear hb5
              have c0 := (block_cell' HH5.out.blk 0).1
              have HRm := Lib.hid (stRoom 1 w5 HH5.out)
              by_cases hmo : l.length + 1 ≤ most
              · have HP := Lib.hid (show bWrap most l ((m : Nat) : Int) rule lev fr tz = (0, wrapL l m ⟨rule, lev, fr, tz, kn⟩) from by rw [HBw.out, HRi.out, if_pos rfl, if_pos hmo])
                have HMo := Lib.hid hmo
                rw [show decide ((1 : Int) ≤ (most : Int) - l.length) = true from by simp; omega] at HRm
                clear hmo
                go_wp2_with fail
                refine HRm.out.mono ?_
                rintro e w6 ⟨rfl, hb6⟩
                have HB6 := Lib.hid (HB5.out.trans (hb6.mono HB5.out.size))
                have HH6 := Lib.hid (HH5.out.later hb6)
                have HO6 := Lib.hid (HO5.out.later hb6)
                clear c0 hb6
                have c0 := (block_cell' HH6.out.blk 0).1
                have HBk := Lib.hid (arBack w6 m HH6.out.ar (by rw [← HLe.out]; exact hml2))
                go_wp2_with fail
                refine HBk.out.mono ?_
                rintro e w7 ⟨rfl, hn7⟩
                obtain ⟨v7, ha7, hk7, hf7⟩ := hn7
                have HA7 := Lib.hid ha7
                have HK7 := Lib.hid hk7
                have HF7 := Lib.hid hf7
                have hne := HH6.out.ne
                have hb7 := hk7.obj HH6.out.blk (fun hS => by
                  rcases hS with hS | hS
                  · exact hne.1 hS
                  · exact hne.2.1 hS)
                have hlt : ∀ k, (Value.slice a3 (1 + 0) p3).ownBlock = some k → ¬ (k = x ∨ v.ownBlock = some k) := fun k hk hS => by
                  have h1 := (HO3.out.lt k hk).1
                  have h2 := lt_of_block HH.out.ar.1
                  rcases hS with rfl | hS
                  · have := HWs.out; omega
                  · have := (HH.out.ar.2.1.lt k hS).2; have := HWs.out; omega
                have HO7 := Lib.hid (show TwOwn W.heap.size w7 (.slice a3 (1 + 0) p3) (⟨rule, lev, fr, tz, kn⟩ :: l.drop m) from hk7.row HO6.out hlt)
                have c0 := (block_cell' hb7 0).1
                have htl : (l.take m).length = m := by rw [List.length_take, ← HLe.out]; omega
                have HTl := Lib.hid htl
                have HPu := Lib.hid (arPut w7 ha7 HO7.out.tw (by rw [htl, List.length_cons, HDl.out]; have := HMo.out; rw [← HLe.out] at this; omega) (by rw [htl, List.length_cons, HDl.out]; omega) (Nat.le_trans HH6.out.bw hk7.size))
                have HB7 := Lib.hid hb7
                clear ha7 hk7 hf7 hne hb7 hlt htl
                go_wp2_with fail
                refine HPu.out.mono ?_
                rintro e w8 ⟨rfl, hn8⟩
                have HN8 := Lib.hid hn8
                clear hn8 c0
                go_wp2
                go_ret
                rw [HP.out]
                refine ⟨rfl, ?_⟩
                have hn8 := HN8.out
                rw [← HTg.out] at hn8
                have hB6 : BuN B w6 b x v (wrapL l m ⟨rule, lev, fr, tz, kn⟩) most (max peak (wrapL l m ⟨rule, lev, fr, tz, kn⟩).length) w8 := by
                  obtain ⟨v8, h1, h2, h3⟩ := hn8
                  have hk := HK7.out
                  refine BuN.of HH6.out ⟨v8, h1, ⟨h2.os.trans hk.os, h2.tape.trans hk.tape, h2.output.trans hk.output, Nat.le_trans hk.size h2.size, fun k hk1 hn => (h2.block k (Nat.lt_of_lt_of_le hk1 hk.size) (fun hS => ?_)).trans (hk.block k hk1 hn)⟩, fun k hk' => ?_⟩ HRi.out (fun t ht => ?_) (by rw [HWl.out]; exact hl2)
                  · rcases hS with hS | hS
                    · exact hn (.inl hS)
                    · rcases HF7.out k hS with h4 | h4
                      · exact hn (.inr h4)
                      · omega
                  · rcases h3 k hk' with h4 | h4
                    · exact HF7.out k h4
                    · exact .inr (Nat.le_trans hk.size h4)
                  · rw [HTg.out] at ht
                    exact HT4.out.ok t ht
                exact hB6.before HB6.out
              · have HP := Lib.hid (show bWrap most l ((m : Nat) : Int) rule lev fr tz = (12, l) from by rw [HBw.out, HRi.out, if_pos rfl, if_neg hmo])
                rw [show decide ((1 : Int) ≤ (most : Int) - l.length) = false from by simp; omega] at HRm
                clear hmo
                go_wp2_with fail
                refine HRm.out.mono ?_
                rintro e w6 ⟨rfl, hb6⟩
                go_wp2
                go_ret
                rw [HP.out]
                simp only
                rw [HPk.out]
                exact ⟨rfl, BuN.self HH.out (HB5.out.trans (hb6.mono HB5.out.size))⟩
        · have hmc2 : m < p2 := by omega
          have hmc3 : (m : Int) < p2 := by omega
          have hmc4 : ¬ p2 = m := by omega
          have HTs := Lib.hid (show TwAt W (.slice (some ⟨g, m * 5, none⟩) (len - m) (p2 - m)) (l.drop m) from by
            have := own_part HOW.out m len (m * 5) (p2 - m) hml2 (Nat.le_refl _) (.inr rfl) ⟨by omega, by unfold maxLen; omega⟩
            rwa [List.take_of_length_le (by rw [HLe.out]; exact Nat.le_refl _)] at this)
          obtain ⟨y0, y1, y2, y3, y4⟩ := five_box HY.out
          have hYl := lt_of_block HY.out
          have hal : Below W.heap.size W (W.drew.alloc (.cells #[.int .i64 rule, .int .i64 lev, .int .i64 fr, .int .i64 tz, .int .i64 (kn : Int)] 45)) := ((Below.refl W.heap.size W).drew).alloc (Nat.le_refl _) _
          obtain ⟨-, -, -, hnil, hnews⟩ := rows_news twc_len (by omega) (HTs.out.later hal)
          have hdl : (l.drop m).length = (len - m) := by rw [List.length_drop, ← HLe.out] 
          have Hnil := Lib.hid hnil
          have Hnews := Lib.hid hnews
          have HDl := Lib.hid hdl
          have HAl := Lib.hid hal
          clear hnil hnews hdl hal
          go_upto_region 7 with (fail)
          go_region_law (refine step_append_tu (by rfl) _ _ 22 75 (by rfl) W.heap.size 45 45 i0 _ 5 40 Tryz.underlying22 Tryz.underlying75 hi0 hz0 hz1 hz2 rfl (by decide) (some ⟨W.heap.size, 0, none⟩) 1 1 [.int .i64 rule, .int .i64 lev, .int .i64 fr, .int .i64 tz, .int .i64 (kn : Int)] (by rfl) (own_shut rfl (Nat.le_refl _) (heap_alloc_new W.drew _) (Nat.le_refl _) (by unfold maxLen; omega) rfl rfl) (some ⟨g, m * 5, none⟩) (len - m) (p2 - m) (tvs (l.drop m)) (by rfl) (fun h => (Hnil.out h).1) (by rw [flat_len twc_len, HDl.out]) Hnews.out (flat_one twc_one _) (by unfold maxLen; omega) (by omega) HAl.out.size ?_; intro v' w3 hown' hgrow; obtain ⟨a3, p3, rfl⟩ := own_val hown')
          all_goals
            have HO3 := Lib.hid (show TwOwn W.heap.size w3 (.slice a3 (1 + (len - m)) p3) (⟨rule, lev, fr, tz, kn⟩ :: l.drop m) from by
              unfold TwOwn
              rw [List.length_cons, HDl.out, Nat.add_comm (len - m) 1]
              exact hown')
            have HB3 := Lib.hid (show Below W.heap.size W w3 from HAl.out.grown hgrow HAl.out.size (fun r hr => by cases hr; exact Nat.le_refl _))
            have HY3 := Lib.hid ((HB3.out.block _ hYl).trans HY.out)
            have HH3 := Lib.hid (HHW.out.later HB3.out)
            have hal2 := (Below.refl w3.heap.size w3).alloc (Nat.le_refl _) (.cells #[.slice (some ⟨g, 0, none⟩) m p2, .slice a3 (1 + (len - m)) p3] 75)
            have HAl2 := Lib.hid hal2
            have HC := Lib.hid (concat_any (R := w3.heap.size) (v1 := .slice (some ⟨g, 0, none⟩) m p2) (v2 := .slice a3 (1 + (len - m)) p3) (l1 := l.take m) (l2 := ⟨rule, lev, fr, tz, kn⟩ :: l.drop m) (w3.alloc (.cells #[.slice (some ⟨g, 0, none⟩) m p2, .slice a3 (1 + (len - m)) p3] 75)) (heap_alloc_new w3 _) ((HTp.out.later HB3.out).later hal2) (HO3.out.tw.later hal2) (by rw [List.length_take]; omega) (by rw [List.length_cons, HDl.out]; omega))
            clear hown' hgrow y0 y1 y2 y3 y4 hal2 hYl
            go_wp2_with fail
            refine HC.out.mono ?_
            rintro e w4 ⟨v4, rfl, ho4, hb4⟩
            have HB4 := Lib.hid (show Below W.heap.size W w4 from HB3.out.trans ((HAl2.out.trans (hb4.mono HAl2.out.size)).mono HB3.out.size))
            have HT4 := Lib.hid (TwRow.own ho4 (fun t ht => (List.mem_append.1 ht).elim (fun h => HHW.out.ok t (List.mem_of_mem_take h)) (HOk.out t)) (by rw [List.length_append, List.length_take, List.length_cons, HDl.out]; omega))
            have HR4 := Lib.hid (right_any v4 _ w4 HT4.out.at' HT4.out.ok HT4.out.len)
            rw [← HTg.out] at HR4
            have HHw4 := Lib.hid (HHW.out.later HB4.out)
            have HO4 := Lib.hid (HO3.out.later (show Below w3.heap.size w3 w4 from HAl2.out.trans (hb4.mono HAl2.out.size)))
            have HBw4 := Lib.hid (HBW.out.trans (HB4.out.mono HBW.out.size))
            obtain ⟨n4, hn4⟩ : ∃ n4, n4 = (l.take m ++ (⟨rule, lev, fr, tz, kn⟩ :: l.drop m : List Tw)).length := ⟨_, rfl⟩
            unfold TwOwn at ho4
            rw [← hn4] at ho4
            obtain ⟨a4, p4, rfl⟩ := own_val ho4
            clear ho4 hb4 HC hn4
            cases hr : rightB (wrapL l m ⟨rule, lev, fr, tz, kn⟩)
            · have HP := Lib.hid (show bWrap most l ((m : Nat) : Int) rule lev fr tz = (4, l) from by rw [HBw.out, hr]; rfl)
              rw [hr] at HR4
              clear hr
              go_wp2_with fail
              refine HR4.out.mono ?_
              rintro e w5 ⟨rfl, hb5⟩
              go_wp2
              go_ret
              rw [HP.out]
              simp only
              rw [HPk.out]
              exact ⟨rfl, BuN.self HH.out (HBw4.out.trans (hb5.mono HBw4.out.size))⟩
            · have HRi := Lib.hid hr
              rw [hr] at HR4
              clear hr
              go_wp2_with fail
              refine HR4.out.mono ?_
              rintro e w5 ⟨rfl, hb5⟩
              have HB5 := Lib.hid (HBw4.out.trans (hb5.mono HBw4.out.size))
              have HH5 := Lib.hid (HHw4.out.later hb5)
              have HO5 := Lib.hid (HO4.out.later hb5)
              have HWs := Lib.hid (HBW.out.size)
              clear hb5
              have c0 := (block_cell' HH5.out.blk 0).1
              have HRm := Lib.hid (stRoom 1 w5 HH5.out)
              by_cases hmo : l.length + 1 ≤ most
              · have HP := Lib.hid (show bWrap most l ((m : Nat) : Int) rule lev fr tz = (0, wrapL l m ⟨rule, lev, fr, tz, kn⟩) from by rw [HBw.out, HRi.out, if_pos rfl, if_pos hmo])
                have HMo := Lib.hid hmo
                rw [show decide ((1 : Int) ≤ (most : Int) - l.length) = true from by simp; omega] at HRm
                clear hmo
                go_wp2_with fail
                refine HRm.out.mono ?_
                rintro e w6 ⟨rfl, hb6⟩
                have HB6 := Lib.hid (HB5.out.trans (hb6.mono HB5.out.size))
                have HH6 := Lib.hid (HH5.out.later hb6)
                have HO6 := Lib.hid (HO5.out.later hb6)
                clear c0 hb6
                have c0 := (block_cell' HH6.out.blk 0).1
                have HBk := Lib.hid (arBack w6 m HH6.out.ar (by rw [← HLe.out]; exact hml2))
                go_wp2_with fail
                refine HBk.out.mono ?_
                rintro e w7 ⟨rfl, hn7⟩
                obtain ⟨v7, ha7, hk7, hf7⟩ := hn7
                have HA7 := Lib.hid ha7
                have HK7 := Lib.hid hk7
                have HF7 := Lib.hid hf7
                have hne := HH6.out.ne
                have hb7 := hk7.obj HH6.out.blk (fun hS => by
                  rcases hS with hS | hS
                  · exact hne.1 hS
                  · exact hne.2.1 hS)
                have hlt : ∀ k, (Value.slice a3 (1 + (len - m)) p3).ownBlock = some k → ¬ (k = x ∨ v.ownBlock = some k) := fun k hk hS => by
                  have h1 := (HO3.out.lt k hk).1
                  have h2 := lt_of_block HH.out.ar.1
                  rcases hS with rfl | hS
                  · have := HWs.out; omega
                  · have := (HH.out.ar.2.1.lt k hS).2; have := HWs.out; omega
                have HO7 := Lib.hid (show TwOwn W.heap.size w7 (.slice a3 (1 + (len - m)) p3) (⟨rule, lev, fr, tz, kn⟩ :: l.drop m) from hk7.row HO6.out hlt)
                have c0 := (block_cell' hb7 0).1
                have htl : (l.take m).length = m := by rw [List.length_take, ← HLe.out]; omega
                have HTl := Lib.hid htl
                have HPu := Lib.hid (arPut w7 ha7 HO7.out.tw (by rw [htl, List.length_cons, HDl.out]; have := HMo.out; rw [← HLe.out] at this; omega) (by rw [htl, List.length_cons, HDl.out]; omega) (Nat.le_trans HH6.out.bw hk7.size))
                have HB7 := Lib.hid hb7
                clear ha7 hk7 hf7 hne hb7 hlt htl
                go_wp2_with fail
                refine HPu.out.mono ?_
                rintro e w8 ⟨rfl, hn8⟩
                have HN8 := Lib.hid hn8
                clear hn8 c0
                go_wp2
                go_ret
                rw [HP.out]
                refine ⟨rfl, ?_⟩
                have hn8 := HN8.out
                rw [← HTg.out] at hn8
                have hB6 : BuN B w6 b x v (wrapL l m ⟨rule, lev, fr, tz, kn⟩) most (max peak (wrapL l m ⟨rule, lev, fr, tz, kn⟩).length) w8 := by
                  obtain ⟨v8, h1, h2, h3⟩ := hn8
                  have hk := HK7.out
                  refine BuN.of HH6.out ⟨v8, h1, ⟨h2.os.trans hk.os, h2.tape.trans hk.tape, h2.output.trans hk.output, Nat.le_trans hk.size h2.size, fun k hk1 hn => (h2.block k (Nat.lt_of_lt_of_le hk1 hk.size) (fun hS => ?_)).trans (hk.block k hk1 hn)⟩, fun k hk' => ?_⟩ HRi.out (fun t ht => ?_) (by rw [HWl.out]; exact hl2)
                  · rcases hS with hS | hS
                    · exact hn (.inl hS)
                    · rcases HF7.out k hS with h4 | h4
                      · exact hn (.inr h4)
                      · omega
                  · rcases h3 k hk' with h4 | h4
                    · exact HF7.out k h4
                    · exact .inr (Nat.le_trans hk.size h4)
                  · rw [HTg.out] at ht
                    exact HT4.out.ok t ht
                exact hB6.before HB6.out
              · have HP := Lib.hid (show bWrap most l ((m : Nat) : Int) rule lev fr tz = (12, l) from by rw [HBw.out, HRi.out, if_pos rfl, if_neg hmo])
                rw [show decide ((1 : Int) ≤ (most : Int) - l.length) = false from by simp; omega] at HRm
                clear hmo
                go_wp2_with fail
                refine HRm.out.mono ?_
                rintro e w6 ⟨rfl, hb6⟩
                go_wp2
                go_ret
                rw [HP.out]
                simp only
                rw [HPk.out]
                exact ⟨rfl, BuN.self HH.out (HB5.out.trans (hb6.mono HB5.out.size))⟩
end Go.Proofs.YtadkjjpopmiceaaGreat
