import Derived.Test.YtadkjjpopmiceaaGreatRfzm
namespace Go.Proofs.YtadkjjpopmiceaaGreat
open Go.RowKit Go.Lib

theorem wpAnyH_list {P : Program} {md : Region.Mode} {ops : Array Oper} {Q : Exit → Act → World → Prop} {S : World → Prop} {fuel : Nat} {listed L : Array Bool} {a : Act} {w : World} (h : listed = L)
    (H : wpAnyH P md ops Q S fuel L a w) : wpAnyH P md ops Q S fuel listed a w := by rw [h]; exact H
theorem gen_anyH {P : Program} {md : Region.Mode} {ops : Array Oper} {Q : Exit → Act → World → Prop} {S : World → Prop} {fuel : Nat} {listed : Array Bool} {a : Act} {w : World} (S2 : World → Prop) (h : S2 w)
    (k : ∀ w', S2 w' → wpAnyH P md ops Q S fuel listed a w') : wpAnyH P md ops Q S fuel listed a w := k w h
/-- a cut whose statement is found where it is first used; omega does not see it. -/
theorem cut_hid {T G : Prop} (h : Hid T → G) (t : T) : G := h (Lib.hid t)
/-- how many of the first roots stand at a place or behind it. -/
def kcnt (l : List Tw) (n : Int) (k : Nat) : Nat := (((topR l).take k).filter fun x : Nat => decide (n ≤ (x : Int))).length
theorem kcnt_le (l : List Tw) (n : Int) (k : Nat) : kcnt l n k ≤ k := by
  unfold kcnt
  exact Nat.le_trans (List.length_filter_le _ _) (by simp; omega)
theorem kcnt_succ {l : List Tw} {n : Int} {k : Nat} (h : k < (topR l).length) : kcnt l n (k + 1) = kcnt l n k + if n ≤ ((topR l)[k] : Int) then 1 else 0 := by
  unfold kcnt
  rw [List.take_succ_eq_append_getElem h, List.filter_append, List.length_append]
  congr 1
  by_cases hk : n ≤ ((topR l)[k] : Int)
  · simp [hk]
  · simp [hk]
theorem kcnt_all {l : List Tw} {n : Int} {k : Nat} (h : k = (topR l).length) : kcnt l n k = kidsM l n := by
  subst h
  unfold kcnt kidsM
  rw [List.take_length]
theorem row_later {B : Nat} {w w' : World} {v : Value} {n : Nat} {xs : List Value} (h : w.ownsRow B 45 5 v n xs) (hb : Below w.heap.size w w') : w'.ownsRow B 45 5 v n xs := (Keeps.ofNew hb (fun _ => False)).row h (fun _ _ h => h)
theorem topR_len {l : List Tw} (h : rightB l = true) : (topR l).length ≤ l.length := by
  obtain ⟨rs, hF⟩ := (rightB_iff l).1 h
  rw [topR_of h hF]
  have := hF.len_le
  omega
set_option maxRecDepth 100000 in
set_option maxHeartbeats 8000000 in
theorem rWrap_any {B rb : Nat} {v : Value} {l : List Tw} {most peak : Nat} (n rule lev fr tz : Int) (w : World) (h : DoB B w rb v l most peak) (hr : rightB l = true) (hl : l.length + 1 ≤ 100000) (hto : tz ≤ 9223372036854775807) :
    Calls Tryz.prog 68 #[.pointer (some ⟨rb, 0, none⟩), .int .i64 n, .int .i64 rule, .int .i64 lev, .agg #[.int .i64 fr, .int .i64 tz]] w fun e w' => e = .returned (.int .i64 (bWrap most l n rule lev fr tz).1) ∧ DoN B w rb v (bWrap most l n rule lev fr tz).2 most (max peak (bWrap most l n rule lev fr tz).2.length) w' := by
  have HH := Lib.hid h
  have HPk := Lib.hid (show max peak l.length = peak from by have := h.pk; omega)
  have hown := h.own
  unfold TwOwn at hown
  obtain ⟨va, vc, rfl⟩ := own_val hown
  obtain ⟨len, hle⟩ : ∃ len, len = l.length := ⟨_, rfl⟩
  have HLe := Lib.hid hle
  rw [← hle] at HH hown hl ⊢
  have hor := own_at hown
  have hcap := own_cap hown
  clear h hown
  go_enter Tryz.func68, Tryz.ntmps68
  go_upto_region 1 with (fail)
  refine gen_world (S := fun u => Below w.heap.size w u ∧ u.heap[w.heap.size]? = some (.cells #[.int .i64 fr, .int .i64 tz] 43 (0, 0))) (one_new w _) (fun u hu => ?_)
  obtain ⟨hb0, hx⟩ := hu
  obtain ⟨X, hX⟩ : ∃ X, X = w.heap.size := ⟨_, rfl⟩
  have HB0 := Lib.hid hb0
  rw [← hX] at hx ⊢
  have HX := Lib.hid hx
  have HMk := Lib.hid (rMark_any n u (HH.out.later hb0))
  clear hb0 hx hX
  cases hm : isMark l n with
  | false =>
    have HP := Lib.hid (show bWrap most l n rule lev fr tz = (2, l) from by unfold bWrap; rw [hm]; rfl)
    rw [hm] at HMk
    clear hm hle hcap hor
    go_wp2_with fail
    refine HMk.out.mono ?_
    rintro e w1 ⟨rfl, hb⟩
    go_wp2
    go_ret
    rw [HP.out]
    simp only
    rw [HPk.out]
    exact ⟨rfl, DoN.self HH.out (HB0.out.trans (hb.mono HB0.out.size))⟩
  | true =>
    obtain ⟨m, rfl, hml⟩ := mark_le hm hr
    have HMm := Lib.hid hm
    have HRt := Lib.hid (topR_len hr)
    rw [← hle] at HRt hml
    rw [hm] at HMk
    clear hm hr hle
    go_wp2_with fail
    refine HMk.out.mono ?_
    rintro e w1 ⟨rfl, hb⟩
    have HB1 := Lib.hid (HB0.out.trans (hb.mono HB0.out.size))
    have HX1 := Lib.hid ((hb.block _ (lt_of_block HX.out)).trans HX.out)
    have HH1 := Lib.hid (HH.out.later HB1.out)
    obtain ⟨c0, -, -⟩ := three_box HH1.out.blk
    have HT := Lib.hid (rTop_any _ l w1 HH1.out.row)
    clear hb HMk
    go_wp2_with fail
    refine HT.out.mono ?_
    rintro e w2 ⟨vT, rfl, ho, hb⟩
    have HB2 := Lib.hid (HB1.out.trans (hb.mono HB1.out.size))
    have HX2 := Lib.hid ((hb.block _ (lt_of_block HX1.out)).trans HX1.out)
    have hnm := ho.nm
    obtain ⟨ka, kc, rfl, hk1, hk2⟩ := hnm.val
    obtain ⟨rn, hrn⟩ : ∃ rn, rn = (topR l).length := ⟨_, rfl⟩
    have HRn := Lib.hid hrn
    rw [← hrn] at hnm hk1 HRt ⊢
    have hrn2 : rn ≤ len := HRt.out
    have HN := Lib.hid hnm
    clear ho hb hnm hrn hk1 hk2 HT c0
    go_wp2
    go_loopw [11, 13] (fun c i wr => ∃ k : Nat, k ≤ rn ∧ i = .int .i64 k ∧ c = .int .i64 (kcnt l m k) ∧ Below w2.heap.size w2 wr) (fun _ i _ => rn - (intOf i).toNat)
    case atStart => exact ⟨0, by omega, rfl, rfl, Below.refl _ _⟩
    case round =>
      obtain ⟨k, hk, rfl, rfl, hbel⟩ := hrel
      have hkc := kcnt_le l m k
      obtain ⟨kn, hkn⟩ : ∃ kn, kn = kcnt l m k := ⟨_, rfl⟩
      rw [← hkn] at hkc ⊢
      by_cases hlt : k < rn
      · have hlt' : (k : Int) < rn := by omega
        have hkR : k < (topR l).length := by rw [← HRn.out]; exact hlt
        have hks := kcnt_succ (l := l) (n := m) hkR
        rw [← hkn] at hks
        obtain ⟨kb, ko, rfl, hkb, k0⟩ := (HN.out.later hbel).cells (i := k) hkR
        obtain ⟨r, hr⟩ : ∃ r, r = (topR l)[k] := ⟨_, rfl⟩
        rw [← hr] at k0 hks
        have HKs := Lib.hid hks
        have HBk := Lib.hid hbel
        clear hr hks hkn hbel
        by_cases hq : (m : Int) ≤ (r : Int)
        · have HQ := Lib.hid hq
          go_wp2
          go_roundw
          case rel => exact ⟨k + 1, by omega, by go_num, by rw [HKs.out, if_pos HQ.out]; go_num, HBk.out⟩
          case measure => simp [intOf]; omega
        · have HQ := Lib.hid hq
          go_wp2
          go_roundw
          case rel => exact ⟨k + 1, by omega, by go_num, by rw [HKs.out, if_neg HQ.out]; rfl, HBk.out⟩
          case measure => simp [intOf]; omega
      · have hlt' : ¬ (k : Int) < rn := by omega
        have HKn := Lib.hid (show kidsM l m = kn from by rw [hkn]; exact (kcnt_all (by have := HRn.out; omega)).symm)
        have hkn3 : kn ≤ 1000000 := by omega
        have HB4 := Lib.hid (HB2.out.trans (hbel.mono HB2.out.size))
        have HX4 := Lib.hid ((hbel.block _ (lt_of_block HX2.out)).trans HX2.out)
        have HH4 := Lib.hid (HH.out.later HB4.out)
        have HTg := Lib.hid (show wrapL l m ⟨rule, lev, fr, tz, kn⟩ = (l.take m ++ [⟨rule, lev, fr, tz, kn⟩]) ++ l.drop m from by simp [wrapL])
        have HWl := Lib.hid (show (wrapL l m ⟨rule, lev, fr, tz, kn⟩).length = len + 1 from by rw [wrapL_len (by rw [← HLe.out]; exact hml), HLe.out])
        have HBw := Lib.hid (show bWrap most l m rule lev fr tz = (if rightB (wrapL l m ⟨rule, lev, fr, tz, kn⟩) = true then (if l.length + 1 ≤ most then (0, wrapL l m ⟨rule, lev, fr, tz, kn⟩) else (12, l)) else (4, l)) from by unfold bWrap; rw [HMm.out, if_pos rfl, HKn.out, Int.toNat_natCast])
        have HOk := Lib.hid (show ∀ t ∈ wrapL l m ⟨rule, lev, fr, tz, kn⟩, twOk t from fun t ht => by
          unfold wrapL at ht
          rcases List.mem_append.1 ht with ht | ht
          · exact HH.out.ok t (List.mem_of_mem_take ht)
          · rcases List.mem_cons.1 ht with rfl | ht
            · exact ⟨hto, by simp only []; omega⟩
            · exact HH.out.ok t (List.mem_of_mem_drop ht))
        have HLt := Lib.hid (show (l.take m).length = m from by rw [List.length_take, ← HLe.out]; omega)
        have HLd := Lib.hid (show (l.drop m).length = len - m from by rw [List.length_drop, ← HLe.out])
        obtain ⟨i0, hi0, hz0, hz1, hz2⟩ := info_parts Tryz.infoTwig
        obtain ⟨hcap1, hcap2⟩ := hcap
        unfold maxLen at hcap2
        have HTp := Lib.hid (show ∀ u, Below w.heap.size w u → ∀ g, va = some ⟨g, 0, none⟩ → TwAt u (.slice (some ⟨g, 0, none⟩) m vc) (l.take m) ∧ (∀ o c, (m = len ∧ c ≤ maxLen ∨ o = m * 5 ∧ c = vc - m) → TwAt u (.slice (some ⟨g, o, none⟩) (len - m) c) (l.drop m)) from fun u hu g hg => by
          subst hg
          have hd := (HH.out.later hu).own
          unfold TwOwn at hd
          rw [← HLe.out] at hd
          refine ⟨?_, fun o c hoc => ?_⟩
          · have := own_part hd 0 m 0 vc (Nat.zero_le _) hml (.inr rfl) ⟨by omega, by unfold maxLen; omega⟩
            simpa using this
          · rcases hoc with ⟨h1, h2⟩ | ⟨h1, h2⟩
            · rw [h1, Nat.sub_self, List.drop_eq_nil_of_le (by rw [← HLe.out]; exact Nat.le_refl _)]
              exact tw_empty u c h2 g o (hd.lt g rfl).2
            · subst h1
              subst h2
              have := own_part hd m len (m * 5) (vc - m) hml (Nat.le_refl _) (.inr rfl) ⟨by omega, by unfold maxLen; omega⟩
              rwa [List.take_of_length_le (by rw [← HLe.out]; exact Nat.le_refl _)] at this)
        clear hkn hbel
        rcases hor with ⟨rfl, rfl, rfl⟩ | ⟨g, rfl⟩
        · obtain rfl : m = 0 := by omega
          have HT1 := Lib.hid (show ∀ u, Below w.heap.size w u → TwAt u (.slice none 0 0) (l.take 0) from fun u hu => TwAt.nil u)
          have HT2 := Lib.hid (show ∀ u, Below w.heap.size w u → TwAt u (.slice none 0 0) (l.drop 0) from fun u hu => by rw [show l.drop 0 = [] from by rw [List.drop_zero]; exact List.eq_nil_of_length_eq_zero HLe.out.symm]; exact TwAt.nil u)
          clear HTp
          have HT1' := Lib.hid (show ∀ u, Below w.heap.size w u → TwAt u (.slice none 0 0) (l.take 0) from HT1.out)
          have HT2' := Lib.hid (show ∀ u, Below w.heap.size w u → TwAt u (.slice none 0 0) (l.drop 0) from HT2.out)
          clear HT1 HT2
          go_upto_region 10 with (fail)
          obtain ⟨B0, hB0⟩ : ∃ B0, B0 = wr.heap.size := ⟨_, rfl⟩
          have HF := Lib.hid (show ∀ wS, Below B0 wr wS → wS.cell? ⟨rb, 0, none⟩ = _ ∧ wS.cell? ⟨X, 0, none⟩ = _ ∧ wS.cell? ⟨X, 1, none⟩ = _ from fun wS h => by
            rw [hB0] at h
            exact ⟨cell_later h (three_box HH4.out.blk).1, cell_later h (two_box HX4.out).1, cell_later h (two_box HX4.out).2⟩)
          have HSz := Lib.hid (show ∀ u, Below B0 wr u → B0 ≤ u.heap.size from fun u h => by rw [hB0]; exact h.size)
          have HBm := Lib.hid (show w.heap.size ≤ B0 from by rw [hB0]; exact HB4.out.size)
          have hSr : Below B0 wr wr.drew := by rw [hB0]; exact (Below.refl wr.heap.size wr).drew
          have HSr := Lib.hid hSr
          clear hB0 hSr
          apply cut_hid
          · intro keyF1
            apply cut_hid
            · intro keyH1
              refine wp_region_held_drew (S := fun u2 => Below B0 wr u2) (by kernel_rfl) HSr.out (fun hS => ?_)
              refine wpAnyH_take (i := 1) (oi := ⟨_, _, _, _, _, _⟩) (v := ?v1) rfl (by kernel_rfl) (by kernel_rfl) (by kernel_rfl) (fun _ _ _ h => h) ?y1 hS ?_
              case y1 => first | (refine Or.inr ⟨by rfl, ?_⟩; with_reducible rfl) | (refine Or.inl ⟨by rfl, ?_⟩; intro wS hSw; obtain ⟨z0, z1, z2⟩ := HF.out wS hSw; go_simp; try with_reducible rfl)
              simp only [Act.put, List.setIfInBounds_toArray, List.set_cons_zero, List.set_cons_succ]
              refine wpAnyH_take (i := 2) (oi := ⟨_, _, _, _, _, _⟩) (v := ?v2) rfl (by kernel_rfl) (by kernel_rfl) (by kernel_rfl) (fun _ _ _ h => h) ?y2 hS ?_
              case y2 => first | (refine Or.inr ⟨by rfl, ?_⟩; with_reducible rfl) | (refine Or.inl ⟨by rfl, ?_⟩; intro wS hSw; obtain ⟨z0, z1, z2⟩ := HF.out wS hSw; go_simp; try with_reducible rfl)
              simp only [Act.put, List.setIfInBounds_toArray, List.set_cons_zero, List.set_cons_succ]
              refine wpAnyH_take (i := 3) (oi := ⟨_, _, _, _, _, _⟩) (v := ?v3) rfl (by kernel_rfl) (by kernel_rfl) (by kernel_rfl) (fun _ _ _ h => h) ?y3 hS ?_
              case y3 => first | (refine Or.inr ⟨by rfl, ?_⟩; with_reducible rfl) | (refine Or.inl ⟨by rfl, ?_⟩; intro wS hSw; obtain ⟨z0, z1, z2⟩ := HF.out wS hSw; go_simp; try with_reducible rfl)
              simp only [Act.put, List.setIfInBounds_toArray, List.set_cons_zero, List.set_cons_succ]
              refine wpAnyH_take (i := 4) (oi := ⟨_, _, _, _, _, _⟩) (v := ?v4) rfl (by kernel_rfl) (by kernel_rfl) (by kernel_rfl) (fun _ _ _ h => h) ?y4 hS ?_
              case y4 => first | (refine Or.inr ⟨by rfl, ?_⟩; with_reducible rfl) | (refine Or.inl ⟨by rfl, ?_⟩; intro wS hSw; obtain ⟨z0, z1, z2⟩ := HF.out wS hSw; go_simp; try with_reducible rfl)
              simp only [Act.put, List.setIfInBounds_toArray, List.set_cons_zero, List.set_cons_succ]
              refine wpAnyH_take (i := 5) (oi := ⟨_, _, _, _, _, _⟩) (v := ?v5) rfl (by kernel_rfl) (by kernel_rfl) (by kernel_rfl) (fun _ _ _ h => h) ?y5 hS ?_
              case y5 => first | (refine Or.inr ⟨by rfl, ?_⟩; with_reducible rfl) | (refine Or.inl ⟨by rfl, ?_⟩; intro wS hSw; obtain ⟨z0, z1, z2⟩ := HF.out wS hSw; go_simp; try with_reducible rfl)
              simp only [Act.put, List.setIfInBounds_toArray, List.set_cons_zero, List.set_cons_succ]
              refine wpAnyH_take (i := 6) (oi := ⟨_, _, _, _, _, _⟩) (v := ?v6) rfl (by kernel_rfl) (by kernel_rfl) (by kernel_rfl) (fun _ _ _ h => h) ?y6 hS ?_
              case y6 => first | (refine Or.inr ⟨by rfl, ?_⟩; with_reducible rfl) | (refine Or.inl ⟨by rfl, ?_⟩; intro wS hSw; obtain ⟨z0, z1, z2⟩ := HF.out wS hSw; go_simp; try with_reducible rfl)
              simp only [Act.put, List.setIfInBounds_toArray, List.set_cons_zero, List.set_cons_succ]
              refine wpAnyH_take (i := 8) (oi := ⟨_, _, _, _, _, _⟩) (v := ?v7) rfl (by kernel_rfl) (by kernel_rfl) (by kernel_rfl) (fun _ _ _ h => h) ?y7 hS ?_
              case y7 => first | (refine Or.inr ⟨by rfl, ?_⟩; with_reducible rfl) | (refine Or.inl ⟨by rfl, ?_⟩; intro wS hSw; obtain ⟨z0, z1, z2⟩ := HF.out wS hSw; go_simp; try with_reducible rfl)
              simp only [Act.put, List.setIfInBounds_toArray, List.set_cons_zero, List.set_cons_succ]
              refine wpAnyH_take (i := 9) (oi := ⟨_, _, _, _, _, _⟩) (v := ?v8) rfl (by kernel_rfl) (by kernel_rfl) (by kernel_rfl) (fun _ _ _ h => h) ?y8 hS ?_
              case y8 => first | (refine Or.inr ⟨by rfl, ?_⟩; with_reducible rfl) | (refine Or.inl ⟨by rfl, ?_⟩; intro wS hSw; obtain ⟨z0, z1, z2⟩ := HF.out wS hSw; go_simp; try with_reducible rfl)
              simp only [Act.put, List.setIfInBounds_toArray, List.set_cons_zero, List.set_cons_succ]
              refine wpAnyH_take (i := 10) (oi := ⟨_, _, _, _, _, _⟩) (v := ?v9) rfl (by kernel_rfl) (by kernel_rfl) (by kernel_rfl) (fun _ _ _ h => h) ?y9 hS ?_
              case y9 => first | (refine Or.inr ⟨by rfl, ?_⟩; with_reducible rfl) | (refine Or.inl ⟨by rfl, ?_⟩; intro wS hSw; obtain ⟨z0, z1, z2⟩ := HF.out wS hSw; go_simp; try with_reducible rfl)
              simp only [Act.put, List.setIfInBounds_toArray, List.set_cons_zero, List.set_cons_succ]
              refine wpAnyH_take (i := 11) (oi := ⟨_, _, _, _, _, _⟩) (v := ?v10) rfl (by kernel_rfl) (by kernel_rfl) (by kernel_rfl) (fun _ _ _ h => h) ?y10 hS ?_
              case y10 => first | (refine Or.inr ⟨by rfl, ?_⟩; with_reducible rfl) | (refine Or.inl ⟨by rfl, ?_⟩; intro wS hSw; obtain ⟨z0, z1, z2⟩ := HF.out wS hSw; go_simp; try with_reducible rfl)
              simp only [Act.put, List.setIfInBounds_toArray, List.set_cons_zero, List.set_cons_succ]
              refine wpAnyH_take (i := 12) (oi := ⟨_, _, _, _, _, _⟩) (v := ?v11) rfl (by kernel_rfl) (by kernel_rfl) (by kernel_rfl) (fun _ _ _ h => h) ?y11 hS ?_
              case y11 => first | (refine Or.inr ⟨by rfl, ?_⟩; with_reducible rfl) | (refine Or.inl ⟨by rfl, ?_⟩; intro wS hSw; obtain ⟨z0, z1, z2⟩ := HF.out wS hSw; go_simp; try with_reducible rfl)
              simp only [Act.put, List.setIfInBounds_toArray, List.set_cons_zero, List.set_cons_succ]
              refine wpAnyH_ready (rs := [0, 13]) (by kernel_rfl) (by simp) ?_
              refine AllReadyH.cons (o := ⟨_, _, _, _, _, _⟩) rfl (fun K hK => ?_) (AllReadyH.cons (o := ⟨_, _, _, _, _, _⟩) rfl (fun K hK => ?_) AllReadyH.nil)
              · go_simp
                refine hK.out _ _ (hS.alloc (HSz.out _ hS) _) (fun hS1 => ?_)
                clear hK K
                try simp only [Act.put, List.setIfInBounds_toArray, List.set_cons_zero, List.set_cons_succ]
                have hb := (one_new wr (.cells #[] 45)).1
                have hnew := (one_new wr (.cells #[] 45)).2
                have hle := HSz.out _ hS
                obtain ⟨gA, hg⟩ : ∃ gA, gA = wr.heap.size := ⟨_, rfl⟩
                rw [← hg] at hnew ⊢
                refine gen_anyH (S2 := fun u => Below B0 wr u ∧ (u.heap[gA]? = some (.cells #[] 45 (0, 0)) ∧ B0 ≤ gA)) ⟨hS1, ⟨hnew, by rw [hg]; exact hle⟩⟩ (fun wv hh => ?_)
                clear hS 
                obtain ⟨hS, hA⟩ := hh
                clear hle hb hnew hS1
                clear hg
                refine wpAnyH_ready (rs := [7, 13]) (by kernel_rfl) (by simp) ?_
                refine AllReadyH.cons (o := ⟨_, _, _, _, _, _⟩) rfl (fun K hK => ?_) (AllReadyH.cons (o := ⟨_, _, _, _, _, _⟩) rfl (fun K hK => ?_) AllReadyH.nil)
                · have hRw := rows_news twc_len (by omega) (HT1'.out _ (HB4.out.trans (hS.mono HBm.out)))
                  refine step_append_tu (by rfl) _ _ 22 22 (by rfl) B0 45 45 i0 _ 5 40 Tryz.underlying22 Tryz.underlying22 hi0 hz0 hz1 hz2 rfl (by decide) (some ⟨gA, 0, none⟩) 0 0 [] (by rfl) (empty_tw hA.1 hA.2) none 0 0 (tvs (l.take 0)) (by rfl) (fun h => (hRw.2.2.2.1 h).1) (by rw [flat_len twc_len, HLt.out]) hRw.2.2.2.2 (flat_one twc_one _) (by unfold maxLen; omega) (by omega) (HSz.out _ hS) ?_
                  intro v3 w3 hown3 hgrow3
                  simp only [Nat.zero_add, List.nil_append] at hown3
                  obtain ⟨aB, pB, rfl⟩ := own_val hown3
                  refine hK.out _ _ (hS.grown hgrow3 (HSz.out _ hS) (fun k hk => by cases hk; exact hA.2)) (fun hS3 => ?_)
                  clear hK K
                  try simp only [Act.put, List.setIfInBounds_toArray, List.set_cons_zero, List.set_cons_succ]
                  refine gen_anyH (S2 := fun u => Below B0 wr u ∧ (u.ownsRow B0 45 5 (.slice aB 0 pB) 0 (tvs (l.take 0)))) ⟨hS3, hown3⟩ (fun wv hh => ?_)
                  clear hS hA
                  obtain ⟨hS, hB⟩ := hh
                  clear hown3 hgrow3 hRw hS3
                  refine wpAnyH_ready (rs := [13]) (by kernel_rfl) (by simp) ?_
                  refine AllReadyH.cons (o := ⟨_, _, _, _, _, _⟩) rfl (fun K hK => ?_) AllReadyH.nil
                  go_simp
                  refine hK.out _ _ (hS.alloc (HSz.out _ hS) _) (fun hS1 => ?_)
                  clear hK K
                  try simp only [Act.put, List.setIfInBounds_toArray, List.set_cons_zero, List.set_cons_succ]
                  have hb := (one_new wv (.cells #[.int .i64 rule, .int .i64 lev, .int .i64 fr, .int .i64 tz, .int .i64 (kn : Int)] 45)).1
                  have hnew := (one_new wv (.cells #[.int .i64 rule, .int .i64 lev, .int .i64 fr, .int .i64 tz, .int .i64 (kn : Int)] 45)).2
                  have hle := HSz.out _ hS
                  obtain ⟨gD, hg⟩ : ∃ gD, gD = wv.heap.size := ⟨_, rfl⟩
                  rw [← hg] at hnew ⊢
                  refine gen_anyH (S2 := fun u => Below B0 wr u ∧ (u.ownsRow B0 45 5 (.slice aB 0 pB) 0 (tvs (l.take 0))) ∧ (u.heap[gD]? = some (.cells #[.int .i64 rule, .int .i64 lev, .int .i64 fr, .int .i64 tz, .int .i64 (kn : Int)] 45 (0, 0)))) ⟨hS1, row_later hB hb, hnew⟩ (fun wv hh => ?_)
                  clear hS hB
                  obtain ⟨hS, hB, hD⟩ := hh
                  clear hle hb hnew hS1
                  clear hg
                  refine wpAnyH_list (L := #[true, true, true, true, true, true, true, true, true, true, true, true, true, true, false, false]) (by kernel_rfl) ?_
                  revert hD
                  revert hB
                  revert pB
                  revert aB
                  revert gD
                  revert gA
                  revert hS
                  revert wv
                  exact keyF1.out
                · go_simp
                  refine hK.out _ _ (hS.alloc (HSz.out _ hS) _) (fun hS1 => ?_)
                  clear hK K
                  try simp only [Act.put, List.setIfInBounds_toArray, List.set_cons_zero, List.set_cons_succ]
                  have hb := (one_new wv (.cells #[.int .i64 rule, .int .i64 lev, .int .i64 fr, .int .i64 tz, .int .i64 (kn : Int)] 45)).1
                  have hnew := (one_new wv (.cells #[.int .i64 rule, .int .i64 lev, .int .i64 fr, .int .i64 tz, .int .i64 (kn : Int)] 45)).2
                  have hle := HSz.out _ hS
                  obtain ⟨gD, hg⟩ : ∃ gD, gD = wv.heap.size := ⟨_, rfl⟩
                  rw [← hg] at hnew ⊢
                  refine gen_anyH (S2 := fun u => Below B0 wr u ∧ (u.heap[gA]? = some (.cells #[] 45 (0, 0)) ∧ B0 ≤ gA) ∧ (u.heap[gD]? = some (.cells #[.int .i64 rule, .int .i64 lev, .int .i64 fr, .int .i64 tz, .int .i64 (kn : Int)] 45 (0, 0)))) ⟨hS1, ⟨(hb.block _ (lt_of_block hA.1)).trans hA.1, hA.2⟩, hnew⟩ (fun wv hh => ?_)
                  clear hS hA
                  obtain ⟨hS, hA, hD⟩ := hh
                  clear hle hb hnew hS1
                  clear hg
                  refine wpAnyH_list (L := #[true, true, true, true, true, true, true, false, true, true, true, true, true, true, false, false]) (by kernel_rfl) ?_
                  revert hD
                  revert hA
                  revert gD
                  revert gA
                  revert hS
                  revert wv
                  exact keyH1.out
              · go_simp
                refine hK.out _ _ (hS.alloc (HSz.out _ hS) _) (fun hS1 => ?_)
                clear hK K
                try simp only [Act.put, List.setIfInBounds_toArray, List.set_cons_zero, List.set_cons_succ]
                have hb := (one_new wr (.cells #[.int .i64 rule, .int .i64 lev, .int .i64 fr, .int .i64 tz, .int .i64 (kn : Int)] 45)).1
                have hnew := (one_new wr (.cells #[.int .i64 rule, .int .i64 lev, .int .i64 fr, .int .i64 tz, .int .i64 (kn : Int)] 45)).2
                have hle := HSz.out _ hS
                obtain ⟨gD, hg⟩ : ∃ gD, gD = wr.heap.size := ⟨_, rfl⟩
                rw [← hg] at hnew ⊢
                refine gen_anyH (S2 := fun u => Below B0 wr u ∧ (u.heap[gD]? = some (.cells #[.int .i64 rule, .int .i64 lev, .int .i64 fr, .int .i64 tz, .int .i64 (kn : Int)] 45 (0, 0)))) ⟨hS1, hnew⟩ (fun wv hh => ?_)
                clear hS 
                obtain ⟨hS, hD⟩ := hh
                clear hle hb hnew hS1
                clear hg
                refine wpAnyH_ready (rs := [0]) (by kernel_rfl) (by simp) ?_
                refine AllReadyH.cons (o := ⟨_, _, _, _, _, _⟩) rfl (fun K hK => ?_) AllReadyH.nil
                go_simp
                refine hK.out _ _ (hS.alloc (HSz.out _ hS) _) (fun hS1 => ?_)
                clear hK K
                try simp only [Act.put, List.setIfInBounds_toArray, List.set_cons_zero, List.set_cons_succ]
                have hb := (one_new wv (.cells #[] 45)).1
                have hnew := (one_new wv (.cells #[] 45)).2
                have hle := HSz.out _ hS
                obtain ⟨gA, hg⟩ : ∃ gA, gA = wv.heap.size := ⟨_, rfl⟩
                rw [← hg] at hnew ⊢
                refine gen_anyH (S2 := fun u => Below B0 wr u ∧ (u.heap[gA]? = some (.cells #[] 45 (0, 0)) ∧ B0 ≤ gA) ∧ (u.heap[gD]? = some (.cells #[.int .i64 rule, .int .i64 lev, .int .i64 fr, .int .i64 tz, .int .i64 (kn : Int)] 45 (0, 0)))) ⟨hS1, ⟨hnew, by rw [hg]; exact hle⟩, (hb.block _ (lt_of_block hD)).trans hD⟩ (fun wv hh => ?_)
                clear hS hD
                obtain ⟨hS, hA, hD⟩ := hh
                clear hle hb hnew hS1
                clear hg
                refine wpAnyH_list (L := #[true, true, true, true, true, true, true, false, true, true, true, true, true, true, false, false]) (by kernel_rfl) ?_
                revert hD
                revert hA
                revert gD
                revert gA
                revert hS
                revert wv
                exact keyH1.out
            · intro wv hS gA gD hA hD
              refine wpAnyH_ready (rs := [7]) (by kernel_rfl) (by simp) ?_
              refine AllReadyH.cons (o := ⟨_, _, _, _, _, _⟩) rfl (fun K hK => ?_) AllReadyH.nil
              have hRw := rows_news twc_len (by omega) (HT1'.out _ (HB4.out.trans (hS.mono HBm.out)))
              refine step_append_tu (by rfl) _ _ 22 22 (by rfl) B0 45 45 i0 _ 5 40 Tryz.underlying22 Tryz.underlying22 hi0 hz0 hz1 hz2 rfl (by decide) (some ⟨gA, 0, none⟩) 0 0 [] (by rfl) (empty_tw hA.1 hA.2) none 0 0 (tvs (l.take 0)) (by rfl) (fun h => (hRw.2.2.2.1 h).1) (by rw [flat_len twc_len, HLt.out]) hRw.2.2.2.2 (flat_one twc_one _) (by unfold maxLen; omega) (by omega) (HSz.out _ hS) ?_
              intro v3 w3 hown3 hgrow3
              simp only [Nat.zero_add, List.nil_append] at hown3
              obtain ⟨aB, pB, rfl⟩ := own_val hown3
              refine hK.out _ _ (hS.grown hgrow3 (HSz.out _ hS) (fun k hk => by cases hk; exact hA.2)) (fun hS3 => ?_)
              clear hK K
              try simp only [Act.put, List.setIfInBounds_toArray, List.set_cons_zero, List.set_cons_succ]
              have hne : gD ≠ gA := fun e => by
                have h1 := hD
                rw [e, hA.1] at h1
                simp at h1
              have hD3 := (hgrow3.block gD (lt_of_block hD) (fun h => hne (by cases h; rfl))).trans hD
              refine gen_anyH (S2 := fun u => Below B0 wr u ∧ (u.ownsRow B0 45 5 (.slice aB 0 pB) 0 (tvs (l.take 0))) ∧ (u.heap[gD]? = some (.cells #[.int .i64 rule, .int .i64 lev, .int .i64 fr, .int .i64 tz, .int .i64 (kn : Int)] 45 (0, 0)))) ⟨hS3, hown3, hD3⟩ (fun wv hh => ?_)
              clear hS hA hD
              obtain ⟨hS, hB, hD⟩ := hh
              clear hown3 hgrow3 hRw hS3 hne hD3
              refine wpAnyH_list (L := #[true, true, true, true, true, true, true, true, true, true, true, true, true, true, false, false]) (by kernel_rfl) ?_
              revert hD
              revert hB
              revert pB
              revert aB
              revert gD
              revert gA
              revert hS
              revert wv
              exact keyF1.out
          · intro wv hS gA gD aB pB hB hD
            refine wpAnyH_ready (rs := [14]) (by kernel_rfl) (by simp) ?_
            refine AllReadyH.cons (o := ⟨_, _, _, _, _, _⟩) rfl (fun K hK => ?_) AllReadyH.nil
            have hNw := World.news_of_block hD
            refine step_append_tu (by rfl) _ _ 22 22 (by rfl) B0 45 45 i0 _ 5 40 Tryz.underlying22 Tryz.underlying22 hi0 hz0 hz1 hz2 rfl (by decide) aB 0 pB (tvs (l.take 0)) (by rfl) hB (some ⟨gD, 0, none⟩) 1 1 (twc ⟨rule, lev, fr, tz, kn⟩) (by rfl) (fun h => by cases h) rfl (fun ad h => by cases h; exact hNw) (twc_one _) (by unfold maxLen; omega) (by omega) (HSz.out _ hS) ?_
            intro v5 w5 hown5 hgrow5
            obtain ⟨aE, pE, rfl⟩ := own_val hown5
            refine hK.out _ _ (hS.grown hgrow5 (HSz.out _ hS) (fun k hk => (hB.lt k hk).1)) (fun hS5 => ?_)
            clear hK K
            try simp only [Act.put, List.setIfInBounds_toArray, List.set_cons_zero, List.set_cons_succ]
            clear hB hD hgrow5 hS
            refine wpAnyH_take (i := 15) (oi := ⟨_, _, _, _, _, _⟩) (v := ?v12) rfl (by kernel_rfl) (by kernel_rfl) (by kernel_rfl) (fun _ _ _ h => h) ?y12 hS5 ?_
            case y12 => first | (refine Or.inr ⟨by rfl, ?_⟩; with_reducible rfl) | (refine Or.inl ⟨by rfl, ?_⟩; intro wS hSw; go_simp; try with_reducible rfl)
            simp only [Act.put, List.setIfInBounds_toArray, List.set_cons_zero, List.set_cons_succ]
            refine wpAnyH_done (by kernel_rfl) ?_ _
            have HB5 := Lib.hid (HB4.out.trans (hS5.mono HBm.out))
            have HS5 := Lib.hid (HSz.out _ hS5)
            have HO5 := Lib.hid hown5
            have HBl := Lib.hid hS5
            have HH5 := Lib.hid (HH.out.later HB5.out)
            obtain ⟨c0, -, -⟩ := three_box HH5.out.blk
            have HRw := Lib.hid (rows_news twc_len (by omega) (HT2'.out _ HB5.out))
            clear hown5 hS5
            go_wp2_with (at_builtin; refine wpList_append_tu rfl (.tmp 53) (.tmp 59) 22 22 rfl B0 45 45 i0 _ 5 40 Tryz.underlying22 Tryz.underlying22 hi0 hz0 hz1 hz2 rfl (by decide) aE (0 + 1) pE (tvs (l.take 0) ++ twc ⟨rule, lev, fr, tz, kn⟩) rfl HO5.out none 0 0 (tvs (l.drop 0)) rfl (fun h => (HRw.out.2.2.2.1 h).1) (by rw [flat_len twc_len, HLd.out]) HRw.out.2.2.2.2 (flat_one twc_one _) (by unfold maxLen; omega) (by omega) HS5.out ?_; intro v6 w6 hown6 hgrow6; obtain ⟨a6, p6, rfl⟩ := own_val hown6; have HO6 := Lib.hid hown6; have HB6 := Lib.hid (HB4.out.trans ((HBl.out.grown hgrow6 HS5.out (fun k hk => (HO5.out.lt k hk).1)).mono HBm.out)); clear hown6 hgrow6)
            have HO6' := Lib.hid (show TwOwn w.heap.size w6 (.slice a6 (0 + 1 + 0) p6) (wrapL l 0 ⟨rule, lev, fr, tz, kn⟩) from by
              have h1 := HO6.out
              unfold TwOwn
              rw [HWl.out, show 0 + 1 = 0 + 1 + 0 from by omega, HTg.out, tvs, List.flatMap_append, List.flatMap_append]
              refine ownsRow_base ?_ HBm.out
              simpa using h1)
            have HTr := Lib.hid (TwRow.own HO6'.out HOk.out (by rw [HWl.out]; omega))
            have HRi := Lib.hid (rRight_any _ _ w6 HTr.out)
            clear c0
            cases hr : rightB (wrapL l 0 ⟨rule, lev, fr, tz, kn⟩) with
            | false =>
              rw [hr] at HRi
              have HP := Lib.hid (show bWrap most l (0 : Nat) rule lev fr tz = (4, l) from by rw [HBw.out, hr]; rfl)
              clear hr
              go_wp2_with fail
              refine HRi.out.mono ?_
              rintro e w7 ⟨rfl, hb⟩
              go_wp2
              go_ret
              rw [HP.out]
              simp only
              rw [HPk.out]
              exact ⟨rfl, DoN.self HH.out (HB6.out.trans (hb.mono HB6.out.size))⟩
            | true =>
              rw [hr] at HRi
              have HP := Lib.hid (show bWrap most l (0 : Nat) rule lev fr tz = ((if (wrapL l 0 ⟨rule, lev, fr, tz, kn⟩).length ≤ most then 0 else 12), (if (wrapL l 0 ⟨rule, lev, fr, tz, kn⟩).length ≤ most then wrapL l 0 ⟨rule, lev, fr, tz, kn⟩ else l)) from by
                rw [HBw.out, hr, if_pos rfl, HWl.out, ← HLe.out]
                split <;> rfl)
              clear hr
              go_wp2_with fail
              refine HRi.out.mono ?_
              rintro e w7 ⟨rfl, hb⟩
              have HB7 := Lib.hid (HB6.out.trans (hb.mono HB6.out.size))
              have HO7 := Lib.hid (HO6'.out.later hb)
              have HSt := Lib.hid (rSet_any w7 (HH.out.later HB7.out) (show TwOwn B w7 _ _ from ownsRow_base HO7.out HH.out.bw) HOk.out (by rw [HWl.out]; exact hl))
              have HFr := Lib.hid (fun k hk => (HO7.out.lt k hk).1)
              obtain ⟨c, hc⟩ : ∃ c : Int, c = if (wrapL l 0 ⟨rule, lev, fr, tz, kn⟩).length ≤ most then 0 else 12 := ⟨_, rfl⟩
              rw [← hc] at HSt HP
              clear hb HRi HO6 HO6' hc
              go_wp2_with fail
              refine HSt.out.mono ?_
              rintro e w8 ⟨rfl, hh⟩
              have HHf := Lib.hid hh
              clear hh HSt
              go_wp2
              go_ret
              rw [HP.out]
              exact ⟨rfl, set_new HB7.out HFr.out HHf.out⟩
        · by_cases hmc : m = vc
          · have hmn : m = len := by omega
            have HT1 := Lib.hid (fun u hu => (HTp.out u hu g rfl).1)
            have HT2 := Lib.hid (fun u hu => (HTp.out u hu g rfl).2 0 0 (.inl ⟨hmn, Nat.zero_le _⟩))
            subst hmc
            subst hmn
            clear HTp
            have HT1' := Lib.hid (show ∀ u, Below w.heap.size w u → TwAt u (.slice (some ⟨g, 0, none⟩) m m) (l.take m) from HT1.out)
            have HT2' := Lib.hid (show ∀ u, Below w.heap.size w u → TwAt u (.slice (some ⟨g, 0, none⟩) 0 0) (l.drop m) from (fun u hu => by have := HT2.out u hu; rwa [Nat.sub_self] at this))
            clear HT1 HT2
            go_upto_region 10 with (fail)
            obtain ⟨B0, hB0⟩ : ∃ B0, B0 = wr.heap.size := ⟨_, rfl⟩
            have HF := Lib.hid (show ∀ wS, Below B0 wr wS → wS.cell? ⟨rb, 0, none⟩ = _ ∧ wS.cell? ⟨X, 0, none⟩ = _ ∧ wS.cell? ⟨X, 1, none⟩ = _ from fun wS h => by
              rw [hB0] at h
              exact ⟨cell_later h (three_box HH4.out.blk).1, cell_later h (two_box HX4.out).1, cell_later h (two_box HX4.out).2⟩)
            have HSz := Lib.hid (show ∀ u, Below B0 wr u → B0 ≤ u.heap.size from fun u h => by rw [hB0]; exact h.size)
            have HBm := Lib.hid (show w.heap.size ≤ B0 from by rw [hB0]; exact HB4.out.size)
            have hSr : Below B0 wr wr.drew := by rw [hB0]; exact (Below.refl wr.heap.size wr).drew
            have HSr := Lib.hid hSr
            clear hB0 hSr
            apply cut_hid
            · intro keyF2
              apply cut_hid
              · intro keyH2
                refine wp_region_held_drew (S := fun u2 => Below B0 wr u2) (by kernel_rfl) HSr.out (fun hS => ?_)
                refine wpAnyH_take (i := 1) (oi := ⟨_, _, _, _, _, _⟩) (v := ?v13) rfl (by kernel_rfl) (by kernel_rfl) (by kernel_rfl) (fun _ _ _ h => h) ?y13 hS ?_
                case y13 => first | (refine Or.inr ⟨by rfl, ?_⟩; with_reducible rfl) | (refine Or.inl ⟨by rfl, ?_⟩; intro wS hSw; obtain ⟨z0, z1, z2⟩ := HF.out wS hSw; go_simp; try with_reducible rfl)
                simp only [Act.put, List.setIfInBounds_toArray, List.set_cons_zero, List.set_cons_succ]
                refine wpAnyH_take (i := 2) (oi := ⟨_, _, _, _, _, _⟩) (v := ?v14) rfl (by kernel_rfl) (by kernel_rfl) (by kernel_rfl) (fun _ _ _ h => h) ?y14 hS ?_
                case y14 => first | (refine Or.inr ⟨by rfl, ?_⟩; with_reducible rfl) | (refine Or.inl ⟨by rfl, ?_⟩; intro wS hSw; obtain ⟨z0, z1, z2⟩ := HF.out wS hSw; go_simp; try with_reducible rfl)
                simp only [Act.put, List.setIfInBounds_toArray, List.set_cons_zero, List.set_cons_succ]
                refine wpAnyH_take (i := 3) (oi := ⟨_, _, _, _, _, _⟩) (v := ?v15) rfl (by kernel_rfl) (by kernel_rfl) (by kernel_rfl) (fun _ _ _ h => h) ?y15 hS ?_
                case y15 => first | (refine Or.inr ⟨by rfl, ?_⟩; with_reducible rfl) | (refine Or.inl ⟨by rfl, ?_⟩; intro wS hSw; obtain ⟨z0, z1, z2⟩ := HF.out wS hSw; go_simp; try with_reducible rfl)
                simp only [Act.put, List.setIfInBounds_toArray, List.set_cons_zero, List.set_cons_succ]
                refine wpAnyH_take (i := 4) (oi := ⟨_, _, _, _, _, _⟩) (v := ?v16) rfl (by kernel_rfl) (by kernel_rfl) (by kernel_rfl) (fun _ _ _ h => h) ?y16 hS ?_
                case y16 => first | (refine Or.inr ⟨by rfl, ?_⟩; with_reducible rfl) | (refine Or.inl ⟨by rfl, ?_⟩; intro wS hSw; obtain ⟨z0, z1, z2⟩ := HF.out wS hSw; go_simp; try with_reducible rfl)
                simp only [Act.put, List.setIfInBounds_toArray, List.set_cons_zero, List.set_cons_succ]
                refine wpAnyH_take (i := 5) (oi := ⟨_, _, _, _, _, _⟩) (v := ?v17) rfl (by kernel_rfl) (by kernel_rfl) (by kernel_rfl) (fun _ _ _ h => h) ?y17 hS ?_
                case y17 => first | (refine Or.inr ⟨by rfl, ?_⟩; with_reducible rfl) | (refine Or.inl ⟨by rfl, ?_⟩; intro wS hSw; obtain ⟨z0, z1, z2⟩ := HF.out wS hSw; go_simp; try with_reducible rfl)
                simp only [Act.put, List.setIfInBounds_toArray, List.set_cons_zero, List.set_cons_succ]
                refine wpAnyH_take (i := 6) (oi := ⟨_, _, _, _, _, _⟩) (v := ?v18) rfl (by kernel_rfl) (by kernel_rfl) (by kernel_rfl) (fun _ _ _ h => h) ?y18 hS ?_
                case y18 => first | (refine Or.inr ⟨by rfl, ?_⟩; with_reducible rfl) | (refine Or.inl ⟨by rfl, ?_⟩; intro wS hSw; obtain ⟨z0, z1, z2⟩ := HF.out wS hSw; go_simp; try with_reducible rfl)
                simp only [Act.put, List.setIfInBounds_toArray, List.set_cons_zero, List.set_cons_succ]
                refine wpAnyH_take (i := 8) (oi := ⟨_, _, _, _, _, _⟩) (v := ?v19) rfl (by kernel_rfl) (by kernel_rfl) (by kernel_rfl) (fun _ _ _ h => h) ?y19 hS ?_
                case y19 => first | (refine Or.inr ⟨by rfl, ?_⟩; with_reducible rfl) | (refine Or.inl ⟨by rfl, ?_⟩; intro wS hSw; obtain ⟨z0, z1, z2⟩ := HF.out wS hSw; go_simp; try with_reducible rfl)
                simp only [Act.put, List.setIfInBounds_toArray, List.set_cons_zero, List.set_cons_succ]
                refine wpAnyH_take (i := 9) (oi := ⟨_, _, _, _, _, _⟩) (v := ?v20) rfl (by kernel_rfl) (by kernel_rfl) (by kernel_rfl) (fun _ _ _ h => h) ?y20 hS ?_
                case y20 => first | (refine Or.inr ⟨by rfl, ?_⟩; with_reducible rfl) | (refine Or.inl ⟨by rfl, ?_⟩; intro wS hSw; obtain ⟨z0, z1, z2⟩ := HF.out wS hSw; go_simp; try with_reducible rfl)
                simp only [Act.put, List.setIfInBounds_toArray, List.set_cons_zero, List.set_cons_succ]
                refine wpAnyH_take (i := 10) (oi := ⟨_, _, _, _, _, _⟩) (v := ?v21) rfl (by kernel_rfl) (by kernel_rfl) (by kernel_rfl) (fun _ _ _ h => h) ?y21 hS ?_
                case y21 => first | (refine Or.inr ⟨by rfl, ?_⟩; with_reducible rfl) | (refine Or.inl ⟨by rfl, ?_⟩; intro wS hSw; obtain ⟨z0, z1, z2⟩ := HF.out wS hSw; go_simp; try with_reducible rfl)
                simp only [Act.put, List.setIfInBounds_toArray, List.set_cons_zero, List.set_cons_succ]
                refine wpAnyH_take (i := 11) (oi := ⟨_, _, _, _, _, _⟩) (v := ?v22) rfl (by kernel_rfl) (by kernel_rfl) (by kernel_rfl) (fun _ _ _ h => h) ?y22 hS ?_
                case y22 => first | (refine Or.inr ⟨by rfl, ?_⟩; with_reducible rfl) | (refine Or.inl ⟨by rfl, ?_⟩; intro wS hSw; obtain ⟨z0, z1, z2⟩ := HF.out wS hSw; go_simp; try with_reducible rfl)
                simp only [Act.put, List.setIfInBounds_toArray, List.set_cons_zero, List.set_cons_succ]
                refine wpAnyH_take (i := 12) (oi := ⟨_, _, _, _, _, _⟩) (v := ?v23) rfl (by kernel_rfl) (by kernel_rfl) (by kernel_rfl) (fun _ _ _ h => h) ?y23 hS ?_
                case y23 => first | (refine Or.inr ⟨by rfl, ?_⟩; with_reducible rfl) | (refine Or.inl ⟨by rfl, ?_⟩; intro wS hSw; obtain ⟨z0, z1, z2⟩ := HF.out wS hSw; go_simp; try with_reducible rfl)
                simp only [Act.put, List.setIfInBounds_toArray, List.set_cons_zero, List.set_cons_succ]
                refine wpAnyH_ready (rs := [0, 13]) (by kernel_rfl) (by simp) ?_
                refine AllReadyH.cons (o := ⟨_, _, _, _, _, _⟩) rfl (fun K hK => ?_) (AllReadyH.cons (o := ⟨_, _, _, _, _, _⟩) rfl (fun K hK => ?_) AllReadyH.nil)
                · go_simp
                  refine hK.out _ _ (hS.alloc (HSz.out _ hS) _) (fun hS1 => ?_)
                  clear hK K
                  try simp only [Act.put, List.setIfInBounds_toArray, List.set_cons_zero, List.set_cons_succ]
                  have hb := (one_new wr (.cells #[] 45)).1
                  have hnew := (one_new wr (.cells #[] 45)).2
                  have hle := HSz.out _ hS
                  obtain ⟨gA, hg⟩ : ∃ gA, gA = wr.heap.size := ⟨_, rfl⟩
                  rw [← hg] at hnew ⊢
                  refine gen_anyH (S2 := fun u => Below B0 wr u ∧ (u.heap[gA]? = some (.cells #[] 45 (0, 0)) ∧ B0 ≤ gA)) ⟨hS1, ⟨hnew, by rw [hg]; exact hle⟩⟩ (fun wv hh => ?_)
                  clear hS 
                  obtain ⟨hS, hA⟩ := hh
                  clear hle hb hnew hS1
                  clear hg
                  refine wpAnyH_ready (rs := [7, 13]) (by kernel_rfl) (by simp) ?_
                  refine AllReadyH.cons (o := ⟨_, _, _, _, _, _⟩) rfl (fun K hK => ?_) (AllReadyH.cons (o := ⟨_, _, _, _, _, _⟩) rfl (fun K hK => ?_) AllReadyH.nil)
                  · have hRw := rows_news twc_len (by omega) (HT1'.out _ (HB4.out.trans (hS.mono HBm.out)))
                    refine step_append_tu (by rfl) _ _ 22 22 (by rfl) B0 45 45 i0 _ 5 40 Tryz.underlying22 Tryz.underlying22 hi0 hz0 hz1 hz2 rfl (by decide) (some ⟨gA, 0, none⟩) 0 0 [] (by rfl) (empty_tw hA.1 hA.2) (some ⟨g, 0, none⟩) m m (tvs (l.take m)) (by rfl) (fun h => (hRw.2.2.2.1 h).1) (by rw [flat_len twc_len, HLt.out]) hRw.2.2.2.2 (flat_one twc_one _) (by unfold maxLen; omega) (by omega) (HSz.out _ hS) ?_
                    intro v3 w3 hown3 hgrow3
                    simp only [Nat.zero_add, List.nil_append] at hown3
                    obtain ⟨aB, pB, rfl⟩ := own_val hown3
                    refine hK.out _ _ (hS.grown hgrow3 (HSz.out _ hS) (fun k hk => by cases hk; exact hA.2)) (fun hS3 => ?_)
                    clear hK K
                    try simp only [Act.put, List.setIfInBounds_toArray, List.set_cons_zero, List.set_cons_succ]
                    refine gen_anyH (S2 := fun u => Below B0 wr u ∧ (u.ownsRow B0 45 5 (.slice aB m pB) m (tvs (l.take m)))) ⟨hS3, hown3⟩ (fun wv hh => ?_)
                    clear hS hA
                    obtain ⟨hS, hB⟩ := hh
                    clear hown3 hgrow3 hRw hS3
                    refine wpAnyH_ready (rs := [13]) (by kernel_rfl) (by simp) ?_
                    refine AllReadyH.cons (o := ⟨_, _, _, _, _, _⟩) rfl (fun K hK => ?_) AllReadyH.nil
                    go_simp
                    refine hK.out _ _ (hS.alloc (HSz.out _ hS) _) (fun hS1 => ?_)
                    clear hK K
                    try simp only [Act.put, List.setIfInBounds_toArray, List.set_cons_zero, List.set_cons_succ]
                    have hb := (one_new wv (.cells #[.int .i64 rule, .int .i64 lev, .int .i64 fr, .int .i64 tz, .int .i64 (kn : Int)] 45)).1
                    have hnew := (one_new wv (.cells #[.int .i64 rule, .int .i64 lev, .int .i64 fr, .int .i64 tz, .int .i64 (kn : Int)] 45)).2
                    have hle := HSz.out _ hS
                    obtain ⟨gD, hg⟩ : ∃ gD, gD = wv.heap.size := ⟨_, rfl⟩
                    rw [← hg] at hnew ⊢
                    refine gen_anyH (S2 := fun u => Below B0 wr u ∧ (u.ownsRow B0 45 5 (.slice aB m pB) m (tvs (l.take m))) ∧ (u.heap[gD]? = some (.cells #[.int .i64 rule, .int .i64 lev, .int .i64 fr, .int .i64 tz, .int .i64 (kn : Int)] 45 (0, 0)))) ⟨hS1, row_later hB hb, hnew⟩ (fun wv hh => ?_)
                    clear hS hB
                    obtain ⟨hS, hB, hD⟩ := hh
                    clear hle hb hnew hS1
                    clear hg
                    refine wpAnyH_list (L := #[true, true, true, true, true, true, true, true, true, true, true, true, true, true, false, false]) (by kernel_rfl) ?_
                    revert hD
                    revert hB
                    revert pB
                    revert aB
                    revert gD
                    revert gA
                    revert hS
                    revert wv
                    exact keyF2.out
                  · go_simp
                    refine hK.out _ _ (hS.alloc (HSz.out _ hS) _) (fun hS1 => ?_)
                    clear hK K
                    try simp only [Act.put, List.setIfInBounds_toArray, List.set_cons_zero, List.set_cons_succ]
                    have hb := (one_new wv (.cells #[.int .i64 rule, .int .i64 lev, .int .i64 fr, .int .i64 tz, .int .i64 (kn : Int)] 45)).1
                    have hnew := (one_new wv (.cells #[.int .i64 rule, .int .i64 lev, .int .i64 fr, .int .i64 tz, .int .i64 (kn : Int)] 45)).2
                    have hle := HSz.out _ hS
                    obtain ⟨gD, hg⟩ : ∃ gD, gD = wv.heap.size := ⟨_, rfl⟩
                    rw [← hg] at hnew ⊢
                    refine gen_anyH (S2 := fun u => Below B0 wr u ∧ (u.heap[gA]? = some (.cells #[] 45 (0, 0)) ∧ B0 ≤ gA) ∧ (u.heap[gD]? = some (.cells #[.int .i64 rule, .int .i64 lev, .int .i64 fr, .int .i64 tz, .int .i64 (kn : Int)] 45 (0, 0)))) ⟨hS1, ⟨(hb.block _ (lt_of_block hA.1)).trans hA.1, hA.2⟩, hnew⟩ (fun wv hh => ?_)
                    clear hS hA
                    obtain ⟨hS, hA, hD⟩ := hh
                    clear hle hb hnew hS1
                    clear hg
                    refine wpAnyH_list (L := #[true, true, true, true, true, true, true, false, true, true, true, true, true, true, false, false]) (by kernel_rfl) ?_
                    revert hD
                    revert hA
                    revert gD
                    revert gA
                    revert hS
                    revert wv
                    exact keyH2.out
                · go_simp
                  refine hK.out _ _ (hS.alloc (HSz.out _ hS) _) (fun hS1 => ?_)
                  clear hK K
                  try simp only [Act.put, List.setIfInBounds_toArray, List.set_cons_zero, List.set_cons_succ]
                  have hb := (one_new wr (.cells #[.int .i64 rule, .int .i64 lev, .int .i64 fr, .int .i64 tz, .int .i64 (kn : Int)] 45)).1
                  have hnew := (one_new wr (.cells #[.int .i64 rule, .int .i64 lev, .int .i64 fr, .int .i64 tz, .int .i64 (kn : Int)] 45)).2
                  have hle := HSz.out _ hS
                  obtain ⟨gD, hg⟩ : ∃ gD, gD = wr.heap.size := ⟨_, rfl⟩
                  rw [← hg] at hnew ⊢
                  refine gen_anyH (S2 := fun u => Below B0 wr u ∧ (u.heap[gD]? = some (.cells #[.int .i64 rule, .int .i64 lev, .int .i64 fr, .int .i64 tz, .int .i64 (kn : Int)] 45 (0, 0)))) ⟨hS1, hnew⟩ (fun wv hh => ?_)
                  clear hS 
                  obtain ⟨hS, hD⟩ := hh
                  clear hle hb hnew hS1
                  clear hg
                  refine wpAnyH_ready (rs := [0]) (by kernel_rfl) (by simp) ?_
                  refine AllReadyH.cons (o := ⟨_, _, _, _, _, _⟩) rfl (fun K hK => ?_) AllReadyH.nil
                  go_simp
                  refine hK.out _ _ (hS.alloc (HSz.out _ hS) _) (fun hS1 => ?_)
                  clear hK K
                  try simp only [Act.put, List.setIfInBounds_toArray, List.set_cons_zero, List.set_cons_succ]
                  have hb := (one_new wv (.cells #[] 45)).1
                  have hnew := (one_new wv (.cells #[] 45)).2
                  have hle := HSz.out _ hS
                  obtain ⟨gA, hg⟩ : ∃ gA, gA = wv.heap.size := ⟨_, rfl⟩
                  rw [← hg] at hnew ⊢
                  refine gen_anyH (S2 := fun u => Below B0 wr u ∧ (u.heap[gA]? = some (.cells #[] 45 (0, 0)) ∧ B0 ≤ gA) ∧ (u.heap[gD]? = some (.cells #[.int .i64 rule, .int .i64 lev, .int .i64 fr, .int .i64 tz, .int .i64 (kn : Int)] 45 (0, 0)))) ⟨hS1, ⟨hnew, by rw [hg]; exact hle⟩, (hb.block _ (lt_of_block hD)).trans hD⟩ (fun wv hh => ?_)
                  clear hS hD
                  obtain ⟨hS, hA, hD⟩ := hh
                  clear hle hb hnew hS1
                  clear hg
                  refine wpAnyH_list (L := #[true, true, true, true, true, true, true, false, true, true, true, true, true, true, false, false]) (by kernel_rfl) ?_
                  revert hD
                  revert hA
                  revert gD
                  revert gA
                  revert hS
                  revert wv
                  exact keyH2.out
              · intro wv hS gA gD hA hD
                refine wpAnyH_ready (rs := [7]) (by kernel_rfl) (by simp) ?_
                refine AllReadyH.cons (o := ⟨_, _, _, _, _, _⟩) rfl (fun K hK => ?_) AllReadyH.nil
                have hRw := rows_news twc_len (by omega) (HT1'.out _ (HB4.out.trans (hS.mono HBm.out)))
                refine step_append_tu (by rfl) _ _ 22 22 (by rfl) B0 45 45 i0 _ 5 40 Tryz.underlying22 Tryz.underlying22 hi0 hz0 hz1 hz2 rfl (by decide) (some ⟨gA, 0, none⟩) 0 0 [] (by rfl) (empty_tw hA.1 hA.2) (some ⟨g, 0, none⟩) m m (tvs (l.take m)) (by rfl) (fun h => (hRw.2.2.2.1 h).1) (by rw [flat_len twc_len, HLt.out]) hRw.2.2.2.2 (flat_one twc_one _) (by unfold maxLen; omega) (by omega) (HSz.out _ hS) ?_
                intro v3 w3 hown3 hgrow3
                simp only [Nat.zero_add, List.nil_append] at hown3
                obtain ⟨aB, pB, rfl⟩ := own_val hown3
                refine hK.out _ _ (hS.grown hgrow3 (HSz.out _ hS) (fun k hk => by cases hk; exact hA.2)) (fun hS3 => ?_)
                clear hK K
                try simp only [Act.put, List.setIfInBounds_toArray, List.set_cons_zero, List.set_cons_succ]
                have hne : gD ≠ gA := fun e => by
                  have h1 := hD
                  rw [e, hA.1] at h1
                  simp at h1
                have hD3 := (hgrow3.block gD (lt_of_block hD) (fun h => hne (by cases h; rfl))).trans hD
                refine gen_anyH (S2 := fun u => Below B0 wr u ∧ (u.ownsRow B0 45 5 (.slice aB m pB) m (tvs (l.take m))) ∧ (u.heap[gD]? = some (.cells #[.int .i64 rule, .int .i64 lev, .int .i64 fr, .int .i64 tz, .int .i64 (kn : Int)] 45 (0, 0)))) ⟨hS3, hown3, hD3⟩ (fun wv hh => ?_)
                clear hS hA hD
                obtain ⟨hS, hB, hD⟩ := hh
                clear hown3 hgrow3 hRw hS3 hne hD3
                refine wpAnyH_list (L := #[true, true, true, true, true, true, true, true, true, true, true, true, true, true, false, false]) (by kernel_rfl) ?_
                revert hD
                revert hB
                revert pB
                revert aB
                revert gD
                revert gA
                revert hS
                revert wv
                exact keyF2.out
            · intro wv hS gA gD aB pB hB hD
              refine wpAnyH_ready (rs := [14]) (by kernel_rfl) (by simp) ?_
              refine AllReadyH.cons (o := ⟨_, _, _, _, _, _⟩) rfl (fun K hK => ?_) AllReadyH.nil
              have hNw := World.news_of_block hD
              refine step_append_tu (by rfl) _ _ 22 22 (by rfl) B0 45 45 i0 _ 5 40 Tryz.underlying22 Tryz.underlying22 hi0 hz0 hz1 hz2 rfl (by decide) aB m pB (tvs (l.take m)) (by rfl) hB (some ⟨gD, 0, none⟩) 1 1 (twc ⟨rule, lev, fr, tz, kn⟩) (by rfl) (fun h => by cases h) rfl (fun ad h => by cases h; exact hNw) (twc_one _) (by unfold maxLen; omega) (by omega) (HSz.out _ hS) ?_
              intro v5 w5 hown5 hgrow5
              obtain ⟨aE, pE, rfl⟩ := own_val hown5
              refine hK.out _ _ (hS.grown hgrow5 (HSz.out _ hS) (fun k hk => (hB.lt k hk).1)) (fun hS5 => ?_)
              clear hK K
              try simp only [Act.put, List.setIfInBounds_toArray, List.set_cons_zero, List.set_cons_succ]
              clear hB hD hgrow5 hS
              refine wpAnyH_take (i := 15) (oi := ⟨_, _, _, _, _, _⟩) (v := ?v24) rfl (by kernel_rfl) (by kernel_rfl) (by kernel_rfl) (fun _ _ _ h => h) ?y24 hS5 ?_
              case y24 => first | (refine Or.inr ⟨by rfl, ?_⟩; with_reducible rfl) | (refine Or.inl ⟨by rfl, ?_⟩; intro wS hSw; go_simp; try with_reducible rfl)
              simp only [Act.put, List.setIfInBounds_toArray, List.set_cons_zero, List.set_cons_succ]
              refine wpAnyH_done (by kernel_rfl) ?_ _
              have HB5 := Lib.hid (HB4.out.trans (hS5.mono HBm.out))
              have HS5 := Lib.hid (HSz.out _ hS5)
              have HO5 := Lib.hid hown5
              have HBl := Lib.hid hS5
              have HH5 := Lib.hid (HH.out.later HB5.out)
              obtain ⟨c0, -, -⟩ := three_box HH5.out.blk
              have HRw := Lib.hid (rows_news twc_len (by omega) (HT2'.out _ HB5.out))
              clear hown5 hS5
              go_wp2_with (at_builtin; refine wpList_append_tu rfl (.tmp 53) (.tmp 59) 22 22 rfl B0 45 45 i0 _ 5 40 Tryz.underlying22 Tryz.underlying22 hi0 hz0 hz1 hz2 rfl (by decide) aE (m + 1) pE (tvs (l.take m) ++ twc ⟨rule, lev, fr, tz, kn⟩) rfl HO5.out (some ⟨g, 0, none⟩) 0 0 (tvs (l.drop m)) rfl (fun h => (HRw.out.2.2.2.1 h).1) (by rw [flat_len twc_len, HLd.out]; omega) HRw.out.2.2.2.2 (flat_one twc_one _) (by unfold maxLen; omega) (by omega) HS5.out ?_; intro v6 w6 hown6 hgrow6; obtain ⟨a6, p6, rfl⟩ := own_val hown6; have HO6 := Lib.hid hown6; have HB6 := Lib.hid (HB4.out.trans ((HBl.out.grown hgrow6 HS5.out (fun k hk => (HO5.out.lt k hk).1)).mono HBm.out)); clear hown6 hgrow6)
              have HO6' := Lib.hid (show TwOwn w.heap.size w6 (.slice a6 (m + 1 + 0) p6) (wrapL l m ⟨rule, lev, fr, tz, kn⟩) from by
                have h1 := HO6.out
                unfold TwOwn
                rw [HWl.out, show m + 1 = m + 1 + 0 from by omega, HTg.out, tvs, List.flatMap_append, List.flatMap_append]
                refine ownsRow_base ?_ HBm.out
                simpa using h1)
              have HTr := Lib.hid (TwRow.own HO6'.out HOk.out (by rw [HWl.out]; omega))
              have HRi := Lib.hid (rRight_any _ _ w6 HTr.out)
              clear c0
              cases hr : rightB (wrapL l m ⟨rule, lev, fr, tz, kn⟩) with
              | false =>
                rw [hr] at HRi
                have HP := Lib.hid (show bWrap most l (m : Nat) rule lev fr tz = (4, l) from by rw [HBw.out, hr]; rfl)
                clear hr
                go_wp2_with fail
                refine HRi.out.mono ?_
                rintro e w7 ⟨rfl, hb⟩
                go_wp2
                go_ret
                rw [HP.out]
                simp only
                rw [HPk.out]
                exact ⟨rfl, DoN.self HH.out (HB6.out.trans (hb.mono HB6.out.size))⟩
              | true =>
                rw [hr] at HRi
                have HP := Lib.hid (show bWrap most l (m : Nat) rule lev fr tz = ((if (wrapL l m ⟨rule, lev, fr, tz, kn⟩).length ≤ most then 0 else 12), (if (wrapL l m ⟨rule, lev, fr, tz, kn⟩).length ≤ most then wrapL l m ⟨rule, lev, fr, tz, kn⟩ else l)) from by
                  rw [HBw.out, hr, if_pos rfl, HWl.out, ← HLe.out]
                  split <;> rfl)
                clear hr
                go_wp2_with fail
                refine HRi.out.mono ?_
                rintro e w7 ⟨rfl, hb⟩
                have HB7 := Lib.hid (HB6.out.trans (hb.mono HB6.out.size))
                have HO7 := Lib.hid (HO6'.out.later hb)
                have HSt := Lib.hid (rSet_any w7 (HH.out.later HB7.out) (show TwOwn B w7 _ _ from ownsRow_base HO7.out HH.out.bw) HOk.out (by rw [HWl.out]; exact hl))
                have HFr := Lib.hid (fun k hk => (HO7.out.lt k hk).1)
                obtain ⟨c, hc⟩ : ∃ c : Int, c = if (wrapL l m ⟨rule, lev, fr, tz, kn⟩).length ≤ most then 0 else 12 := ⟨_, rfl⟩
                rw [← hc] at HSt HP
                clear hb HRi HO6 HO6' hc
                go_wp2_with fail
                refine HSt.out.mono ?_
                rintro e w8 ⟨rfl, hh⟩
                have HHf := Lib.hid hh
                clear hh HSt
                go_wp2
                go_ret
                rw [HP.out]
                exact ⟨rfl, set_new HB7.out HFr.out HHf.out⟩
          · have hml4 : (m : Int) ≤ vc := by omega
            have hml5 : (m : Int) ≤ len := by omega
            have HT1 := Lib.hid (fun u hu => (HTp.out u hu g rfl).1)
            have HT2 := Lib.hid (fun u hu => (HTp.out u hu g rfl).2 (m * 5) (vc - m) (.inr ⟨rfl, rfl⟩))
            clear HTp
            have HT1' := Lib.hid (show ∀ u, Below w.heap.size w u → TwAt u (.slice (some ⟨g, 0, none⟩) m vc) (l.take m) from HT1.out)
            have HT2' := Lib.hid (show ∀ u, Below w.heap.size w u → TwAt u (.slice (some ⟨g, m * 5, none⟩) (len - m) (vc - m)) (l.drop m) from HT2.out)
            clear HT1 HT2
            go_upto_region 10 with (fail)
            obtain ⟨B0, hB0⟩ : ∃ B0, B0 = wr.heap.size := ⟨_, rfl⟩
            have HF := Lib.hid (show ∀ wS, Below B0 wr wS → wS.cell? ⟨rb, 0, none⟩ = _ ∧ wS.cell? ⟨X, 0, none⟩ = _ ∧ wS.cell? ⟨X, 1, none⟩ = _ from fun wS h => by
              rw [hB0] at h
              exact ⟨cell_later h (three_box HH4.out.blk).1, cell_later h (two_box HX4.out).1, cell_later h (two_box HX4.out).2⟩)
            have HSz := Lib.hid (show ∀ u, Below B0 wr u → B0 ≤ u.heap.size from fun u h => by rw [hB0]; exact h.size)
            have HBm := Lib.hid (show w.heap.size ≤ B0 from by rw [hB0]; exact HB4.out.size)
            have hSr : Below B0 wr wr.drew := by rw [hB0]; exact (Below.refl wr.heap.size wr).drew
            have HSr := Lib.hid hSr
            clear hB0 hSr
            apply cut_hid
            · intro keyF3
              apply cut_hid
              · intro keyH3
                refine wp_region_held_drew (S := fun u2 => Below B0 wr u2) (by kernel_rfl) HSr.out (fun hS => ?_)
                refine wpAnyH_take (i := 1) (oi := ⟨_, _, _, _, _, _⟩) (v := ?v25) rfl (by kernel_rfl) (by kernel_rfl) (by kernel_rfl) (fun _ _ _ h => h) ?y25 hS ?_
                case y25 => first | (refine Or.inr ⟨by rfl, ?_⟩; with_reducible rfl) | (refine Or.inl ⟨by rfl, ?_⟩; intro wS hSw; obtain ⟨z0, z1, z2⟩ := HF.out wS hSw; go_simp; try with_reducible rfl)
                simp only [Act.put, List.setIfInBounds_toArray, List.set_cons_zero, List.set_cons_succ]
                refine wpAnyH_take (i := 2) (oi := ⟨_, _, _, _, _, _⟩) (v := ?v26) rfl (by kernel_rfl) (by kernel_rfl) (by kernel_rfl) (fun _ _ _ h => h) ?y26 hS ?_
                case y26 => first | (refine Or.inr ⟨by rfl, ?_⟩; with_reducible rfl) | (refine Or.inl ⟨by rfl, ?_⟩; intro wS hSw; obtain ⟨z0, z1, z2⟩ := HF.out wS hSw; go_simp; try with_reducible rfl)
                simp only [Act.put, List.setIfInBounds_toArray, List.set_cons_zero, List.set_cons_succ]
                refine wpAnyH_take (i := 3) (oi := ⟨_, _, _, _, _, _⟩) (v := ?v27) rfl (by kernel_rfl) (by kernel_rfl) (by kernel_rfl) (fun _ _ _ h => h) ?y27 hS ?_
                case y27 => first | (refine Or.inr ⟨by rfl, ?_⟩; with_reducible rfl) | (refine Or.inl ⟨by rfl, ?_⟩; intro wS hSw; obtain ⟨z0, z1, z2⟩ := HF.out wS hSw; go_simp; try with_reducible rfl)
                simp only [Act.put, List.setIfInBounds_toArray, List.set_cons_zero, List.set_cons_succ]
                refine wpAnyH_take (i := 4) (oi := ⟨_, _, _, _, _, _⟩) (v := ?v28) rfl (by kernel_rfl) (by kernel_rfl) (by kernel_rfl) (fun _ _ _ h => h) ?y28 hS ?_
                case y28 => first | (refine Or.inr ⟨by rfl, ?_⟩; with_reducible rfl) | (refine Or.inl ⟨by rfl, ?_⟩; intro wS hSw; obtain ⟨z0, z1, z2⟩ := HF.out wS hSw; go_simp; try with_reducible rfl)
                simp only [Act.put, List.setIfInBounds_toArray, List.set_cons_zero, List.set_cons_succ]
                refine wpAnyH_take (i := 5) (oi := ⟨_, _, _, _, _, _⟩) (v := ?v29) rfl (by kernel_rfl) (by kernel_rfl) (by kernel_rfl) (fun _ _ _ h => h) ?y29 hS ?_
                case y29 => first | (refine Or.inr ⟨by rfl, ?_⟩; with_reducible rfl) | (refine Or.inl ⟨by rfl, ?_⟩; intro wS hSw; obtain ⟨z0, z1, z2⟩ := HF.out wS hSw; go_simp; try with_reducible rfl)
                simp only [Act.put, List.setIfInBounds_toArray, List.set_cons_zero, List.set_cons_succ]
                refine wpAnyH_take (i := 6) (oi := ⟨_, _, _, _, _, _⟩) (v := ?v30) rfl (by kernel_rfl) (by kernel_rfl) (by kernel_rfl) (fun _ _ _ h => h) ?y30 hS ?_
                case y30 => first | (refine Or.inr ⟨by rfl, ?_⟩; with_reducible rfl) | (refine Or.inl ⟨by rfl, ?_⟩; intro wS hSw; obtain ⟨z0, z1, z2⟩ := HF.out wS hSw; go_simp; try with_reducible rfl)
                simp only [Act.put, List.setIfInBounds_toArray, List.set_cons_zero, List.set_cons_succ]
                refine wpAnyH_take (i := 8) (oi := ⟨_, _, _, _, _, _⟩) (v := ?v31) rfl (by kernel_rfl) (by kernel_rfl) (by kernel_rfl) (fun _ _ _ h => h) ?y31 hS ?_
                case y31 => first | (refine Or.inr ⟨by rfl, ?_⟩; with_reducible rfl) | (refine Or.inl ⟨by rfl, ?_⟩; intro wS hSw; obtain ⟨z0, z1, z2⟩ := HF.out wS hSw; go_simp; try with_reducible rfl)
                simp only [Act.put, List.setIfInBounds_toArray, List.set_cons_zero, List.set_cons_succ]
                refine wpAnyH_take (i := 9) (oi := ⟨_, _, _, _, _, _⟩) (v := ?v32) rfl (by kernel_rfl) (by kernel_rfl) (by kernel_rfl) (fun _ _ _ h => h) ?y32 hS ?_
                case y32 => first | (refine Or.inr ⟨by rfl, ?_⟩; with_reducible rfl) | (refine Or.inl ⟨by rfl, ?_⟩; intro wS hSw; obtain ⟨z0, z1, z2⟩ := HF.out wS hSw; go_simp; try with_reducible rfl)
                simp only [Act.put, List.setIfInBounds_toArray, List.set_cons_zero, List.set_cons_succ]
                refine wpAnyH_take (i := 10) (oi := ⟨_, _, _, _, _, _⟩) (v := ?v33) rfl (by kernel_rfl) (by kernel_rfl) (by kernel_rfl) (fun _ _ _ h => h) ?y33 hS ?_
                case y33 => first | (refine Or.inr ⟨by rfl, ?_⟩; with_reducible rfl) | (refine Or.inl ⟨by rfl, ?_⟩; intro wS hSw; obtain ⟨z0, z1, z2⟩ := HF.out wS hSw; go_simp; try with_reducible rfl)
                simp only [Act.put, List.setIfInBounds_toArray, List.set_cons_zero, List.set_cons_succ]
                refine wpAnyH_take (i := 11) (oi := ⟨_, _, _, _, _, _⟩) (v := ?v34) rfl (by kernel_rfl) (by kernel_rfl) (by kernel_rfl) (fun _ _ _ h => h) ?y34 hS ?_
                case y34 => first | (refine Or.inr ⟨by rfl, ?_⟩; with_reducible rfl) | (refine Or.inl ⟨by rfl, ?_⟩; intro wS hSw; obtain ⟨z0, z1, z2⟩ := HF.out wS hSw; go_simp; try with_reducible rfl)
                simp only [Act.put, List.setIfInBounds_toArray, List.set_cons_zero, List.set_cons_succ]
                refine wpAnyH_take (i := 12) (oi := ⟨_, _, _, _, _, _⟩) (v := ?v35) rfl (by kernel_rfl) (by kernel_rfl) (by kernel_rfl) (fun _ _ _ h => h) ?y35 hS ?_
                case y35 => first | (refine Or.inr ⟨by rfl, ?_⟩; with_reducible rfl) | (refine Or.inl ⟨by rfl, ?_⟩; intro wS hSw; obtain ⟨z0, z1, z2⟩ := HF.out wS hSw; go_simp; try with_reducible rfl)
                simp only [Act.put, List.setIfInBounds_toArray, List.set_cons_zero, List.set_cons_succ]
                refine wpAnyH_ready (rs := [0, 13]) (by kernel_rfl) (by simp) ?_
                refine AllReadyH.cons (o := ⟨_, _, _, _, _, _⟩) rfl (fun K hK => ?_) (AllReadyH.cons (o := ⟨_, _, _, _, _, _⟩) rfl (fun K hK => ?_) AllReadyH.nil)
                · go_simp
                  refine hK.out _ _ (hS.alloc (HSz.out _ hS) _) (fun hS1 => ?_)
                  clear hK K
                  try simp only [Act.put, List.setIfInBounds_toArray, List.set_cons_zero, List.set_cons_succ]
                  have hb := (one_new wr (.cells #[] 45)).1
                  have hnew := (one_new wr (.cells #[] 45)).2
                  have hle := HSz.out _ hS
                  obtain ⟨gA, hg⟩ : ∃ gA, gA = wr.heap.size := ⟨_, rfl⟩
                  rw [← hg] at hnew ⊢
                  refine gen_anyH (S2 := fun u => Below B0 wr u ∧ (u.heap[gA]? = some (.cells #[] 45 (0, 0)) ∧ B0 ≤ gA)) ⟨hS1, ⟨hnew, by rw [hg]; exact hle⟩⟩ (fun wv hh => ?_)
                  clear hS 
                  obtain ⟨hS, hA⟩ := hh
                  clear hle hb hnew hS1
                  clear hg
                  refine wpAnyH_ready (rs := [7, 13]) (by kernel_rfl) (by simp) ?_
                  refine AllReadyH.cons (o := ⟨_, _, _, _, _, _⟩) rfl (fun K hK => ?_) (AllReadyH.cons (o := ⟨_, _, _, _, _, _⟩) rfl (fun K hK => ?_) AllReadyH.nil)
                  · have hRw := rows_news twc_len (by omega) (HT1'.out _ (HB4.out.trans (hS.mono HBm.out)))
                    refine step_append_tu (by rfl) _ _ 22 22 (by rfl) B0 45 45 i0 _ 5 40 Tryz.underlying22 Tryz.underlying22 hi0 hz0 hz1 hz2 rfl (by decide) (some ⟨gA, 0, none⟩) 0 0 [] (by rfl) (empty_tw hA.1 hA.2) (some ⟨g, 0, none⟩) m vc (tvs (l.take m)) (by rfl) (fun h => (hRw.2.2.2.1 h).1) (by rw [flat_len twc_len, HLt.out]) hRw.2.2.2.2 (flat_one twc_one _) (by unfold maxLen; omega) (by omega) (HSz.out _ hS) ?_
                    intro v3 w3 hown3 hgrow3
                    simp only [Nat.zero_add, List.nil_append] at hown3
                    obtain ⟨aB, pB, rfl⟩ := own_val hown3
                    refine hK.out _ _ (hS.grown hgrow3 (HSz.out _ hS) (fun k hk => by cases hk; exact hA.2)) (fun hS3 => ?_)
                    clear hK K
                    try simp only [Act.put, List.setIfInBounds_toArray, List.set_cons_zero, List.set_cons_succ]
                    refine gen_anyH (S2 := fun u => Below B0 wr u ∧ (u.ownsRow B0 45 5 (.slice aB m pB) m (tvs (l.take m)))) ⟨hS3, hown3⟩ (fun wv hh => ?_)
                    clear hS hA
                    obtain ⟨hS, hB⟩ := hh
                    clear hown3 hgrow3 hRw hS3
                    refine wpAnyH_ready (rs := [13]) (by kernel_rfl) (by simp) ?_
                    refine AllReadyH.cons (o := ⟨_, _, _, _, _, _⟩) rfl (fun K hK => ?_) AllReadyH.nil
                    go_simp
                    refine hK.out _ _ (hS.alloc (HSz.out _ hS) _) (fun hS1 => ?_)
                    clear hK K
                    try simp only [Act.put, List.setIfInBounds_toArray, List.set_cons_zero, List.set_cons_succ]
                    have hb := (one_new wv (.cells #[.int .i64 rule, .int .i64 lev, .int .i64 fr, .int .i64 tz, .int .i64 (kn : Int)] 45)).1
                    have hnew := (one_new wv (.cells #[.int .i64 rule, .int .i64 lev, .int .i64 fr, .int .i64 tz, .int .i64 (kn : Int)] 45)).2
                    have hle := HSz.out _ hS
                    obtain ⟨gD, hg⟩ : ∃ gD, gD = wv.heap.size := ⟨_, rfl⟩
                    rw [← hg] at hnew ⊢
                    refine gen_anyH (S2 := fun u => Below B0 wr u ∧ (u.ownsRow B0 45 5 (.slice aB m pB) m (tvs (l.take m))) ∧ (u.heap[gD]? = some (.cells #[.int .i64 rule, .int .i64 lev, .int .i64 fr, .int .i64 tz, .int .i64 (kn : Int)] 45 (0, 0)))) ⟨hS1, row_later hB hb, hnew⟩ (fun wv hh => ?_)
                    clear hS hB
                    obtain ⟨hS, hB, hD⟩ := hh
                    clear hle hb hnew hS1
                    clear hg
                    refine wpAnyH_list (L := #[true, true, true, true, true, true, true, true, true, true, true, true, true, true, false, false]) (by kernel_rfl) ?_
                    revert hD
                    revert hB
                    revert pB
                    revert aB
                    revert gD
                    revert gA
                    revert hS
                    revert wv
                    exact keyF3.out
                  · go_simp
                    refine hK.out _ _ (hS.alloc (HSz.out _ hS) _) (fun hS1 => ?_)
                    clear hK K
                    try simp only [Act.put, List.setIfInBounds_toArray, List.set_cons_zero, List.set_cons_succ]
                    have hb := (one_new wv (.cells #[.int .i64 rule, .int .i64 lev, .int .i64 fr, .int .i64 tz, .int .i64 (kn : Int)] 45)).1
                    have hnew := (one_new wv (.cells #[.int .i64 rule, .int .i64 lev, .int .i64 fr, .int .i64 tz, .int .i64 (kn : Int)] 45)).2
                    have hle := HSz.out _ hS
                    obtain ⟨gD, hg⟩ : ∃ gD, gD = wv.heap.size := ⟨_, rfl⟩
                    rw [← hg] at hnew ⊢
                    refine gen_anyH (S2 := fun u => Below B0 wr u ∧ (u.heap[gA]? = some (.cells #[] 45 (0, 0)) ∧ B0 ≤ gA) ∧ (u.heap[gD]? = some (.cells #[.int .i64 rule, .int .i64 lev, .int .i64 fr, .int .i64 tz, .int .i64 (kn : Int)] 45 (0, 0)))) ⟨hS1, ⟨(hb.block _ (lt_of_block hA.1)).trans hA.1, hA.2⟩, hnew⟩ (fun wv hh => ?_)
                    clear hS hA
                    obtain ⟨hS, hA, hD⟩ := hh
                    clear hle hb hnew hS1
                    clear hg
                    refine wpAnyH_list (L := #[true, true, true, true, true, true, true, false, true, true, true, true, true, true, false, false]) (by kernel_rfl) ?_
                    revert hD
                    revert hA
                    revert gD
                    revert gA
                    revert hS
                    revert wv
                    exact keyH3.out
                · go_simp
                  refine hK.out _ _ (hS.alloc (HSz.out _ hS) _) (fun hS1 => ?_)
                  clear hK K
                  try simp only [Act.put, List.setIfInBounds_toArray, List.set_cons_zero, List.set_cons_succ]
                  have hb := (one_new wr (.cells #[.int .i64 rule, .int .i64 lev, .int .i64 fr, .int .i64 tz, .int .i64 (kn : Int)] 45)).1
                  have hnew := (one_new wr (.cells #[.int .i64 rule, .int .i64 lev, .int .i64 fr, .int .i64 tz, .int .i64 (kn : Int)] 45)).2
                  have hle := HSz.out _ hS
                  obtain ⟨gD, hg⟩ : ∃ gD, gD = wr.heap.size := ⟨_, rfl⟩
                  rw [← hg] at hnew ⊢
                  refine gen_anyH (S2 := fun u => Below B0 wr u ∧ (u.heap[gD]? = some (.cells #[.int .i64 rule, .int .i64 lev, .int .i64 fr, .int .i64 tz, .int .i64 (kn : Int)] 45 (0, 0)))) ⟨hS1, hnew⟩ (fun wv hh => ?_)
                  clear hS 
                  obtain ⟨hS, hD⟩ := hh
                  clear hle hb hnew hS1
                  clear hg
                  refine wpAnyH_ready (rs := [0]) (by kernel_rfl) (by simp) ?_
                  refine AllReadyH.cons (o := ⟨_, _, _, _, _, _⟩) rfl (fun K hK => ?_) AllReadyH.nil
                  go_simp
                  refine hK.out _ _ (hS.alloc (HSz.out _ hS) _) (fun hS1 => ?_)
                  clear hK K
                  try simp only [Act.put, List.setIfInBounds_toArray, List.set_cons_zero, List.set_cons_succ]
                  have hb := (one_new wv (.cells #[] 45)).1
                  have hnew := (one_new wv (.cells #[] 45)).2
                  have hle := HSz.out _ hS
                  obtain ⟨gA, hg⟩ : ∃ gA, gA = wv.heap.size := ⟨_, rfl⟩
                  rw [← hg] at hnew ⊢
                  refine gen_anyH (S2 := fun u => Below B0 wr u ∧ (u.heap[gA]? = some (.cells #[] 45 (0, 0)) ∧ B0 ≤ gA) ∧ (u.heap[gD]? = some (.cells #[.int .i64 rule, .int .i64 lev, .int .i64 fr, .int .i64 tz, .int .i64 (kn : Int)] 45 (0, 0)))) ⟨hS1, ⟨hnew, by rw [hg]; exact hle⟩, (hb.block _ (lt_of_block hD)).trans hD⟩ (fun wv hh => ?_)
                  clear hS hD
                  obtain ⟨hS, hA, hD⟩ := hh
                  clear hle hb hnew hS1
                  clear hg
                  refine wpAnyH_list (L := #[true, true, true, true, true, true, true, false, true, true, true, true, true, true, false, false]) (by kernel_rfl) ?_
                  revert hD
                  revert hA
                  revert gD
                  revert gA
                  revert hS
                  revert wv
                  exact keyH3.out
              · intro wv hS gA gD hA hD
                refine wpAnyH_ready (rs := [7]) (by kernel_rfl) (by simp) ?_
                refine AllReadyH.cons (o := ⟨_, _, _, _, _, _⟩) rfl (fun K hK => ?_) AllReadyH.nil
                have hRw := rows_news twc_len (by omega) (HT1'.out _ (HB4.out.trans (hS.mono HBm.out)))
                refine step_append_tu (by rfl) _ _ 22 22 (by rfl) B0 45 45 i0 _ 5 40 Tryz.underlying22 Tryz.underlying22 hi0 hz0 hz1 hz2 rfl (by decide) (some ⟨gA, 0, none⟩) 0 0 [] (by rfl) (empty_tw hA.1 hA.2) (some ⟨g, 0, none⟩) m vc (tvs (l.take m)) (by rfl) (fun h => (hRw.2.2.2.1 h).1) (by rw [flat_len twc_len, HLt.out]) hRw.2.2.2.2 (flat_one twc_one _) (by unfold maxLen; omega) (by omega) (HSz.out _ hS) ?_
                intro v3 w3 hown3 hgrow3
                simp only [Nat.zero_add, List.nil_append] at hown3
                obtain ⟨aB, pB, rfl⟩ := own_val hown3
                refine hK.out _ _ (hS.grown hgrow3 (HSz.out _ hS) (fun k hk => by cases hk; exact hA.2)) (fun hS3 => ?_)
                clear hK K
                try simp only [Act.put, List.setIfInBounds_toArray, List.set_cons_zero, List.set_cons_succ]
                have hne : gD ≠ gA := fun e => by
                  have h1 := hD
                  rw [e, hA.1] at h1
                  simp at h1
                have hD3 := (hgrow3.block gD (lt_of_block hD) (fun h => hne (by cases h; rfl))).trans hD
                refine gen_anyH (S2 := fun u => Below B0 wr u ∧ (u.ownsRow B0 45 5 (.slice aB m pB) m (tvs (l.take m))) ∧ (u.heap[gD]? = some (.cells #[.int .i64 rule, .int .i64 lev, .int .i64 fr, .int .i64 tz, .int .i64 (kn : Int)] 45 (0, 0)))) ⟨hS3, hown3, hD3⟩ (fun wv hh => ?_)
                clear hS hA hD
                obtain ⟨hS, hB, hD⟩ := hh
                clear hown3 hgrow3 hRw hS3 hne hD3
                refine wpAnyH_list (L := #[true, true, true, true, true, true, true, true, true, true, true, true, true, true, false, false]) (by kernel_rfl) ?_
                revert hD
                revert hB
                revert pB
                revert aB
                revert gD
                revert gA
                revert hS
                revert wv
                exact keyF3.out
            · intro wv hS gA gD aB pB hB hD
              refine wpAnyH_ready (rs := [14]) (by kernel_rfl) (by simp) ?_
              refine AllReadyH.cons (o := ⟨_, _, _, _, _, _⟩) rfl (fun K hK => ?_) AllReadyH.nil
              have hNw := World.news_of_block hD
              refine step_append_tu (by rfl) _ _ 22 22 (by rfl) B0 45 45 i0 _ 5 40 Tryz.underlying22 Tryz.underlying22 hi0 hz0 hz1 hz2 rfl (by decide) aB m pB (tvs (l.take m)) (by rfl) hB (some ⟨gD, 0, none⟩) 1 1 (twc ⟨rule, lev, fr, tz, kn⟩) (by rfl) (fun h => by cases h) rfl (fun ad h => by cases h; exact hNw) (twc_one _) (by unfold maxLen; omega) (by omega) (HSz.out _ hS) ?_
              intro v5 w5 hown5 hgrow5
              obtain ⟨aE, pE, rfl⟩ := own_val hown5
              refine hK.out _ _ (hS.grown hgrow5 (HSz.out _ hS) (fun k hk => (hB.lt k hk).1)) (fun hS5 => ?_)
              clear hK K
              try simp only [Act.put, List.setIfInBounds_toArray, List.set_cons_zero, List.set_cons_succ]
              clear hB hD hgrow5 hS
              refine wpAnyH_take (i := 15) (oi := ⟨_, _, _, _, _, _⟩) (v := ?v36) rfl (by kernel_rfl) (by kernel_rfl) (by kernel_rfl) (fun _ _ _ h => h) ?y36 hS5 ?_
              case y36 => first | (refine Or.inr ⟨by rfl, ?_⟩; with_reducible rfl) | (refine Or.inl ⟨by rfl, ?_⟩; intro wS hSw; go_simp; try with_reducible rfl)
              simp only [Act.put, List.setIfInBounds_toArray, List.set_cons_zero, List.set_cons_succ]
              refine wpAnyH_done (by kernel_rfl) ?_ _
              have HB5 := Lib.hid (HB4.out.trans (hS5.mono HBm.out))
              have HS5 := Lib.hid (HSz.out _ hS5)
              have HO5 := Lib.hid hown5
              have HBl := Lib.hid hS5
              have HH5 := Lib.hid (HH.out.later HB5.out)
              obtain ⟨c0, -, -⟩ := three_box HH5.out.blk
              have HRw := Lib.hid (rows_news twc_len (by omega) (HT2'.out _ HB5.out))
              clear hown5 hS5
              go_wp2_with (at_builtin; refine wpList_append_tu rfl (.tmp 53) (.tmp 59) 22 22 rfl B0 45 45 i0 _ 5 40 Tryz.underlying22 Tryz.underlying22 hi0 hz0 hz1 hz2 rfl (by decide) aE (m + 1) pE (tvs (l.take m) ++ twc ⟨rule, lev, fr, tz, kn⟩) rfl HO5.out (some ⟨g, m * 5, none⟩) (len - m) (vc - m) (tvs (l.drop m)) rfl (fun h => (HRw.out.2.2.2.1 h).1) (by rw [flat_len twc_len, HLd.out]) HRw.out.2.2.2.2 (flat_one twc_one _) (by unfold maxLen; omega) (by omega) HS5.out ?_; intro v6 w6 hown6 hgrow6; obtain ⟨a6, p6, rfl⟩ := own_val hown6; have HO6 := Lib.hid hown6; have HB6 := Lib.hid (HB4.out.trans ((HBl.out.grown hgrow6 HS5.out (fun k hk => (HO5.out.lt k hk).1)).mono HBm.out)); clear hown6 hgrow6)
              have HO6' := Lib.hid (show TwOwn w.heap.size w6 (.slice a6 (m + 1 + (len - m)) p6) (wrapL l m ⟨rule, lev, fr, tz, kn⟩) from by
                have h1 := HO6.out
                unfold TwOwn
                rw [HWl.out, show len + 1 = m + 1 + (len - m) from by omega, HTg.out, tvs, List.flatMap_append, List.flatMap_append]
                refine ownsRow_base ?_ HBm.out
                simpa using h1)
              have HTr := Lib.hid (TwRow.own HO6'.out HOk.out (by rw [HWl.out]; omega))
              have HRi := Lib.hid (rRight_any _ _ w6 HTr.out)
              clear c0
              cases hr : rightB (wrapL l m ⟨rule, lev, fr, tz, kn⟩) with
              | false =>
                rw [hr] at HRi
                have HP := Lib.hid (show bWrap most l (m : Nat) rule lev fr tz = (4, l) from by rw [HBw.out, hr]; rfl)
                clear hr
                go_wp2_with fail
                refine HRi.out.mono ?_
                rintro e w7 ⟨rfl, hb⟩
                go_wp2
                go_ret
                rw [HP.out]
                simp only
                rw [HPk.out]
                exact ⟨rfl, DoN.self HH.out (HB6.out.trans (hb.mono HB6.out.size))⟩
              | true =>
                rw [hr] at HRi
                have HP := Lib.hid (show bWrap most l (m : Nat) rule lev fr tz = ((if (wrapL l m ⟨rule, lev, fr, tz, kn⟩).length ≤ most then 0 else 12), (if (wrapL l m ⟨rule, lev, fr, tz, kn⟩).length ≤ most then wrapL l m ⟨rule, lev, fr, tz, kn⟩ else l)) from by
                  rw [HBw.out, hr, if_pos rfl, HWl.out, ← HLe.out]
                  split <;> rfl)
                clear hr
                go_wp2_with fail
                refine HRi.out.mono ?_
                rintro e w7 ⟨rfl, hb⟩
                have HB7 := Lib.hid (HB6.out.trans (hb.mono HB6.out.size))
                have HO7 := Lib.hid (HO6'.out.later hb)
                have HSt := Lib.hid (rSet_any w7 (HH.out.later HB7.out) (show TwOwn B w7 _ _ from ownsRow_base HO7.out HH.out.bw) HOk.out (by rw [HWl.out]; exact hl))
                have HFr := Lib.hid (fun k hk => (HO7.out.lt k hk).1)
                obtain ⟨c, hc⟩ : ∃ c : Int, c = if (wrapL l m ⟨rule, lev, fr, tz, kn⟩).length ≤ most then 0 else 12 := ⟨_, rfl⟩
                rw [← hc] at HSt HP
                clear hb HRi HO6 HO6' hc
                go_wp2_with fail
                refine HSt.out.mono ?_
                rintro e w8 ⟨rfl, hh⟩
                have HHf := Lib.hid hh
                clear hh HSt
                go_wp2
                go_ret
                rw [HP.out]
                exact ⟨rfl, set_new HB7.out HFr.out HHf.out⟩
end Go.Proofs.YtadkjjpopmiceaaGreat
