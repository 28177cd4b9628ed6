/-
  tree.Build.Put.
-/
import Derived.Test.YtadkjjpopmiceaaTba
namespace Go.Proofs.Ytadkjjpopmiceaa
open Go.RowKit Go.Lib

theorem TwRow.own {B : Nat} {w : World} {v : Value} {l : List Tw} (h : TwOwn B w v l) (hok : ∀ t ∈ l, twOk t) (hl : l.length ≤ 1000000) : TwRow w v l := ⟨h.tw, hok, hl⟩
set_option maxRecDepth 100000 in
set_option maxHeartbeats 4000000 in
theorem buPut {B : Nat} {b x : Nat} {v vl : Value} {l l2 : List Tw} {most peak : Nat} (w : World) (h : BuI B w b x v l most peak) (h2 : TwRow w vl l2) (hl : l.length + l2.length ≤ 100000) :
    Calls Try.prog 15 #[.pointer (some ⟨b, 0, none⟩), vl] w fun e w' => e = .returned (.int .i64 (bPut most l l2).1) ∧ BuN B w b x v (bPut most l l2).2 most (max peak (bPut most l l2).2.length) w' := by
  have HM := Lib.hid (buMade w h)
  have HR2 := Lib.hid (right_any vl l2 w h2.at' h2.ok h2.len)
  have HH := Lib.hid h
  have H2 := Lib.hid h2
  have c0 := (block_cell' h.blk 0).1
  have hpk : max peak l.length = peak := by have := h.ar.2.2.2.2.2; omega
  have HPk := Lib.hid hpk
  obtain ⟨ao, cap, rfl⟩ := h2.at'.val
  obtain ⟨n2, hn2⟩ : ∃ n2, n2 = l2.length := ⟨_, rfl⟩
  have HN2 := Lib.hid hn2
  rw [← hn2] at HR2 H2 hl ⊢
  clear h h2 hpk hn2
  cases hr2 : rightB l2
  · have HP := Lib.hid (show bPut most l l2 = (4, l) from by unfold bPut; rw [hr2]; rfl)
    rw [hr2] at HR2
    clear hr2
    go_enter Try.func15, Try.ntmps15
    go_wp2_with fail
    refine HM.out.mono ?_
    rintro e w' ⟨rfl, rfl⟩
    go_wp2_with fail
    refine HR2.out.mono ?_
    rintro e w1 ⟨rfl, hb⟩
    go_wp2
    go_ret
    rw [HP.out]
    simp only
    rw [HPk.out]
    exact ⟨rfl, BuN.self HH.out hb⟩
  · have HRi := Lib.hid hr2
    rw [hr2] at HR2
    clear hr2
    obtain ⟨i0, hi0, hz0, hz1, hz2⟩ := info_parts Try.infoTwig
    go_enter Try.func15, Try.ntmps15
    go_wp2_with fail
    refine HM.out.mono ?_
    rintro e w' ⟨rfl, rfl⟩
    go_wp2_with fail
    refine HR2.out.mono ?_
    rintro e w1 ⟨rfl, hb1⟩
    have HB1 := Lib.hid hb1
    have HH1 := Lib.hid (HH.out.later hb1)
    clear c0 hb1
    have c0 := (block_cell' HH1.out.blk 0).1
    have HRo := Lib.hid (rowS_any w1 HH1.out.ar (by have := HH1.out.len; omega))
    go_wp2_with fail
    refine HRo.out.mono ?_
    rintro e w2 ⟨v2, rfl, ho2, hb2⟩
    have HB2 := Lib.hid (HB1.out.trans (hb2.mono HB1.out.size))
    have H22 := Lib.hid (H2.out.later HB2.out)
    obtain ⟨a2, p2, rfl⟩ := own_val ho2
    obtain ⟨n, hn⟩ : ∃ n, n = l.length := ⟨_, rfl⟩
    have HN := Lib.hid hn
    unfold TwOwn at ho2
    rw [← hn] at ho2 hl ⊢
    have HO2 := Lib.hid ho2
    obtain ⟨-, hlc, hcm, hnil, hnews⟩ := rows_news twc_len (by omega) H22.out.at'
    have Hnil := Lib.hid hnil
    have Hnews := Lib.hid hnews
    have HS12b := Lib.hid hb2
    have hsz2 : w1.heap.size ≤ w2.heap.size := hb2.size
    clear ho2 hb2 hn hnil hnews
    go_wp2_with (refine wpList_append_tu rfl (.tmp 20) (.tmp 21) 76 22 rfl w1.heap.size 32 32 i0 _ 5 40 Try.underlying76 Try.underlying22 hi0 hz0 hz1 hz2 rfl (by decide) a2 n p2 (tvs l) rfl HO2.out ao n2 cap (tvs l2) rfl (fun h => (Hnil.out h).1) (by rw [flat_len twc_len, HN2.out]) Hnews.out (flat_one twc_one l2) (by unfold maxLen; omega) (by omega) hsz2 ?_; intro v3 w3 hown' hgrow)
    have HB3 := Lib.hid (show Below w1.heap.size w1 w3 from by
      have h1 : Below w1.heap.size w1 w2 := HS12b.out
      exact h1.grown hgrow hsz2 (fun r hr => (HO2.out.lt r hr).1))
    have HO3 := Lib.hid (show TwOwn w1.heap.size w3 v3 (l ++ l2) from by
      unfold TwOwn
      rw [List.length_append, ← HN.out, ← HN2.out, tvs, List.flatMap_append]
      exact hown')
    have HT3 := Lib.hid (TwRow.own HO3.out (fun t ht => (List.mem_append.1 ht).elim (HH1.out.ok t) (H2.out.ok t)) (by rw [List.length_append, ← HN.out, ← HN2.out]; omega))
    have HR3 := Lib.hid (right_any v3 (l ++ l2) w3 HT3.out.at' HT3.out.ok HT3.out.len)
    have HBw3 := Lib.hid (HB1.out.trans (HB3.out.mono HB1.out.size))
    have HH3 := Lib.hid (HH1.out.later HB3.out)
    obtain ⟨a3, p3, rfl⟩ := own_val hown'
    clear hown' hgrow
    cases hr3 : rightB (l ++ l2)
    · have HP := Lib.hid (show bPut most l l2 = (2, l) from by unfold bPut; rw [HRi.out, hr3]; rfl)
      rw [hr3] at HR3
      clear hr3
      refine HR3.out.mono ?_
      rintro e w4 ⟨rfl, hb4⟩
      go_wp2
      go_ret
      rw [HP.out]
      simp only
      rw [HPk.out]
      exact ⟨rfl, BuN.self HH.out (HBw3.out.trans (hb4.mono HBw3.out.size))⟩
    · have HRi3 := Lib.hid hr3
      rw [hr3] at HR3
      clear hr3
      refine HR3.out.mono ?_
      rintro e w4 ⟨rfl, hb4⟩
      have HB4 := Lib.hid (HBw3.out.trans (hb4.mono HBw3.out.size))
      have HH4 := Lib.hid (HH3.out.later hb4)
      have H24 := Lib.hid (H2.out.later HB4.out)
      clear c0 hb4
      have c0 := (block_cell' HH4.out.blk 0).1
      by_cases hm : l.length + l2.length ≤ most
      · have HP := Lib.hid (show bPut most l l2 = (0, l ++ l2) from by unfold bPut; rw [HRi.out, HRi3.out, if_pos rfl, if_pos rfl, if_pos hm])
        have HPu := Lib.hid (arPut w4 HH4.out.ar H24.out.at' hm (by rw [← HN.out, ← HN2.out]; omega) HH4.out.bw)
        clear hm
        go_wp2_with fail
        refine HPu.out.mono ?_
        rintro e w5 ⟨rfl, hn⟩
        have HNw := Lib.hid hn
        clear hn c0
        go_wp2
        go_ret
        rw [HP.out]
        exact ⟨rfl, (BuN.of HH4.out HNw.out HRi3.out HT3.out.ok (by rw [List.length_append, ← HN.out, ← HN2.out]; exact hl)).before HB4.out⟩
      · have HP := Lib.hid (show bPut most l l2 = (12, l) from by unfold bPut; rw [HRi.out, HRi3.out, if_pos rfl, if_pos rfl, if_neg hm])
        have HPu := Lib.hid (arPut_full w4 HH4.out.ar H24.out.at' (by omega))
        clear hm
        go_wp2_with fail
        refine HPu.out.mono ?_
        rintro e w5 ⟨rfl, q, rfl⟩
        clear c0
        go_wp2
        go_ret
        rw [HP.out]
        simp only
        rw [HPk.out]
        exact ⟨rfl, BuN.self HH.out (below_draws HB4.out q)⟩
end Go.Proofs.Ytadkjjpopmiceaa
