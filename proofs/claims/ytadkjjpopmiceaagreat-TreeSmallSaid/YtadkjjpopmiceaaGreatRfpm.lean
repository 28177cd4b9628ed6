import Derived.Test.YtadkjjpopmiceaaGreatRfym
namespace Go.Proofs.YtadkjjpopmiceaaGreat
open Go.RowKit Go.Lib

set_option maxHeartbeats 1000000 in
theorem rHas_any (v : Value) (l : List Tw) (n : Int) (w : World) (h : TwRow w v l) :
    Calls Tryz.prog 59 #[v, .int .i64 n] w fun e w' => e = .returned (.bool (hasR l n)) ∧ Below w.heap.size w w' := by
  have HR := Lib.hid (rRight_any v l w h)
  obtain ⟨ao, cap, rfl⟩ := h.at'.val
  have hl := h.len
  obtain ⟨len, hlen⟩ : ∃ len, len = l.length := ⟨_, rfl⟩
  have HLe := Lib.hid hlen
  rw [← hlen] at HR hl ⊢
  clear h hlen
  by_cases h0 : 0 ≤ n
  · by_cases h1 : n < len
    · have HV := Lib.hid (show hasR l n = rightB l from by unfold hasR; rw [show decide (0 ≤ n ∧ n < (l.length : Int)) = true from by simp; have := HLe.out; omega, Bool.true_and])
      go_enter Tryz.func59, Tryz.ntmps59
      go_wp2_with fail
      refine HR.out.mono ?_
      rintro e w' ⟨rfl, hb⟩
      go_wp2
      go_ret
      exact ⟨ret_bool HV.out.symm, hb⟩
    · have HV := Lib.hid (show hasR l n = false from by unfold hasR; rw [show decide (0 ≤ n ∧ n < (l.length : Int)) = false from by simp; have := HLe.out; omega, Bool.false_and])
      go_enter Tryz.func59, Tryz.ntmps59
      go_wp2
      go_ret
      exact ⟨ret_bool HV.out.symm, Below.refl _ _⟩
  · have HV := Lib.hid (show hasR l n = false from by unfold hasR; rw [show decide (0 ≤ n ∧ n < (l.length : Int)) = false from by simp; omega, Bool.false_and])
    go_enter Tryz.func59, Tryz.ntmps59
    go_wp2
    go_ret
    exact ⟨ret_bool HV.out.symm, Below.refl _ _⟩
theorem hasR_at {l : List Tw} {n : Int} (h : hasR l n = true) : ∃ k : Nat, n = k ∧ k < l.length ∧ rightB l = true := by
  unfold hasR at h
  simp only [Bool.and_eq_true, decide_eq_true_eq] at h
  exact ⟨n.toNat, by omega, by omega, h.2⟩
theorem sizR_at {l : List Tw} {k m : Nat} {ks : List Nat} (h : hasR l k = true) (hs : Sub l k m ks) : sizR l k = m - k := by
  unfold sizR
  rw [if_pos h, Int.toNat_natCast, hs.aN]
set_option maxHeartbeats 1000000 in
theorem rSize_any (v : Value) (l : List Tw) (n : Int) (w : World) (h : TwRow w v l) :
    Calls Tryz.prog 23 #[v, .int .i64 n] w fun e w' => e = .returned (.int .i64 (sizR l n)) ∧ Below w.heap.size w w' := by
  have HH := Lib.hid (rHas_any v l n w h)
  have H := Lib.hid h
  obtain ⟨ao, cap, rfl⟩ := h.at'.val
  have hl := h.len
  obtain ⟨len, hlen⟩ : ∃ len, len = l.length := ⟨_, rfl⟩
  have HLe := Lib.hid hlen
  rw [← hlen] at HH H hl ⊢
  clear h hlen
  cases hh : hasR l n with
  | false =>
    rw [hh] at HH
    have HV := Lib.hid (show sizR l n = 0 from by unfold sizR; rw [hh]; rfl)
    clear hh
    go_enter Tryz.func23, Tryz.ntmps23
    go_wp2_with fail
    refine HH.out.mono ?_
    rintro e w1 ⟨rfl, hb⟩
    go_wp2
    go_ret
    exact ⟨by rw [HV.out]; rfl, hb⟩
  | true =>
    obtain ⟨k, rfl, hk, hr⟩ := hasR_at hh
    rw [hh] at HH
    obtain ⟨m, ks, hs⟩ := ((rightB_iff l).1 hr).sub hk
    have hlt := hs.lt
    obtain ⟨hl1, hl2⟩ := hlt
    have HV := Lib.hid (sizR_at hh hs)
    have HA := Lib.hid (show aftV l k = m from by unfold aftV; rw [hs.aft])
    rw [← HLe.out] at hk hl2
    clear hh hr hs
    obtain ⟨d, hd⟩ : ∃ d : Nat, d = m - k := ⟨_, rfl⟩
    have hmd : (m : Int) = k + d := by omega
    rw [← hd] at HV
    have hdb : d ≤ 1000000 := by omega
    clear hd
    go_enter Tryz.func23, Tryz.ntmps23
    go_wp2_with fail
    refine HH.out.mono ?_
    rintro e w1 ⟨rfl, hb⟩
    have HB := Lib.hid hb
    have HC := Lib.hid (rAfter_any H.out.len k _ w1 (H.out.later hb).at')
    rw [HA.out, hmd] at HC
    clear hb hmd
    go_wp2_with fail
    refine HC.out.mono ?_
    rintro e w2 ⟨rfl, rfl⟩
    have hw : IntKind.i64.wrap ((k : Int) + d - k) = d := (IntWalk.i64_in _ (by omega)).trans (by omega)
    go_wp2
    go_ret
    exact ⟨by rw [HV.out]; first | rfl | (congr 2; omega), HB.out⟩
set_option maxHeartbeats 1000000 in
theorem rKids_any (v : Value) (l : List Tw) (n : Int) (w : World) (h : TwRow w v l) :
    Calls Tryz.prog 20 #[v, .int .i64 n] w fun e w' => Told w (kidsR l n) e w' := by
  have HH := Lib.hid (rHas_any v l n w h)
  have H := Lib.hid h
  obtain ⟨ao, cap, rfl⟩ := h.at'.val
  have hl := h.len
  obtain ⟨len, hlen⟩ : ∃ len, len = l.length := ⟨_, rfl⟩
  have HLe := Lib.hid hlen
  rw [← hlen] at HH H hl ⊢
  clear h hlen
  cases hh : hasR l n with
  | false =>
    rw [hh] at HH
    have HV := Lib.hid (show kidsR l n = [] from by unfold kidsR; rw [hh]; rfl)
    clear hh
    go_enter Tryz.func20, Tryz.ntmps20
    go_wp2_with fail
    refine HH.out.mono ?_
    rintro e w1 ⟨rfl, hb⟩
    go_wp2
    go_ret
    refine ⟨_, rfl, ?_, hb⟩
    rw [HV.out]
    exact World.ownsRow_nil _ _ _ _
  | true =>
    obtain ⟨k, rfl, hk, hr⟩ := hasR_at hh
    rw [hh] at HH
    have HV := Lib.hid (show kidsR l k = (rowL l (atT l k).kids.toNat (k + 1)).getD [] from by unfold kidsR; rw [if_pos hh, Int.toNat_natCast]; rfl)
    clear hh hr
    go_enter Tryz.func20, Tryz.ntmps20
    go_wp2_with fail
    refine HH.out.mono ?_
    rintro e w1 ⟨rfl, hb⟩
    have HB := Lib.hid hb
    have HT1 := Lib.hid (H.out.later hb)
    obtain ⟨tb, toff, rfl, -, -, -, c4⟩ := HT1.out.at'.span hk
    obtain ⟨kk, hkk⟩ : ∃ kk, kk = (atT l k).kids := ⟨_, rfl⟩
    rw [← hkk] at c4
    have HKk := Lib.hid hkk
    have HC := Lib.hid (rRow_any H.out.len (k + 1) kk _ w1 HT1.out.at' (by omega))
    rw [← HLe.out] at hk
    have hk' : (k : Int) < len := by omega
    clear hb hkk
    go_wp2_with fail
    refine HC.out.mono ?_
    rintro e w2 ⟨v', rfl, ho, hb⟩
    rw [HKk.out, ← HV.out] at ho
    have HO := Lib.hid (ho.lift HB.out.size)
    have HB2 := Lib.hid (HB.out.trans (hb.mono HB.out.size))
    unfold OwnN at ho
    obtain ⟨va, vc, rfl⟩ := own_val ho
    clear ho hb c4 HC
    go_wp2
    go_ret
    exact ⟨_, rfl, HO.out, HB2.out⟩
theorem rSpHas_any (a b p : Int) (w : World) : Calls Tryz.prog 58 #[.agg #[.int .i64 a, .int .i64 b], .int .i64 p] w fun e w' => e = .returned (.bool (shB a b p)) ∧ Below w.heap.size w w' := by
  have HA := Lib.hid (fun u => rSpan_any a b u)
  go_enter Tryz.func58, Tryz.ntmps58
  go_upto_region 1 with (fail)
  refine gen_world (S := fun u => Below w.heap.size w u ∧ u.heap[w.heap.size]? = some (.cells #[.int .i64 a, .int .i64 b] 43 (0, 0))) (one_new w _) (fun u hu => ?_)
  obtain ⟨hb0, hx⟩ := hu
  have HB := Lib.hid hb0
  have HX := Lib.hid hx
  obtain ⟨x0, x1⟩ := two_box hx
  clear hb0 hx
  go_wp2_with fail
  refine (HA.out _).mono ?_
  rintro e w2 ⟨rfl, hb⟩
  have HB2 := Lib.hid (HB.out.trans (hb.mono HB.out.size))
  have hx2 := (hb.block _ (lt_of_block HX.out)).trans HX.out
  clear x0 x1 hb
  obtain ⟨x0, x1⟩ := two_box hx2
  clear hx2
  cases hs : srB a b with
  | false =>
    have HF := Lib.hid (show shB a b p = false from by simp [srB] at hs; simp [shB]; omega)
    clear hs
    go_wp2
    go_ret
    exact ⟨ret_bool HF.out.symm, HB2.out⟩
  | true =>
    have HF := Lib.hid (show shB a b p = (decide (a ≤ p) && decide (p < b)) from by
      simp [srB] at hs
      unfold shB
      rw [← Bool.decide_and, decide_eq_decide]
      omega)
    clear hs
    by_cases g1 : a ≤ p
    · by_cases g2 : p < b
      all_goals
        go_wp2
        go_ret
        exact ⟨ret_bool (by rw [HF.out]; simp [g1, g2]), HB2.out⟩
    · go_wp2
      go_ret
      exact ⟨ret_bool (by rw [HF.out]; simp; omega), HB2.out⟩
end Go.Proofs.YtadkjjpopmiceaaGreat
namespace Go.Proofs.YtadkjjpopmiceaaGreat
open Go.RowKit Go.Lib

theorem hasB_shB {l : List Tw} (h : rightB l = true) {n : Nat} (hn : n < l.length) (pl : Int) : hasB (atT l n) pl = shB (atT l n).fr (atT l n).to pl := by
  obtain ⟨m, ks, hs⟩ := ((rightB_iff l).1 h).sub hn
  have := hs.2.1
  unfold okT at this
  simp only [shB, hasB, decide_eq_decide]
  omega
theorem onP_succ (l : List Tw) (pl : Int) (n : Nat) : onP l pl 0 (n + 1) = onP l pl 0 n ++ if hasB (atT l n) pl = true then [n] else [] := by
  rw [onP_split (Nat.zero_le n) (Nat.le_succ n), onP_cons (Nat.lt_succ_self n)]
  congr 1
  have : onP l pl (n + 1) (n + 1) = [] := by simp [onP]
  rw [this, List.append_nil]
theorem onP_len (l : List Tw) (pl : Int) (n : Nat) : (onP l pl 0 n).length ≤ n := by
  unfold onP
  exact Nat.le_trans (List.length_filter_le _ _) (by simp)
set_option maxRecDepth 100000 in
set_option maxHeartbeats 2000000 in
theorem rPath_any (v : Value) (l : List Tw) (pl : Int) (w : World) (h : TwRow w v l) :
    Calls Tryz.prog 17 #[v, .int .i64 pl] w fun e w' => Told w (pathR l pl) e w' := by
  have HR := Lib.hid (rRight_any v l w h)
  have H := Lib.hid h
  obtain ⟨ao, cap, rfl⟩ := h.at'.val
  have hl := h.len
  obtain ⟨len, hlen⟩ : ∃ len, len = l.length := ⟨_, rfl⟩
  have HLe := Lib.hid hlen
  rw [← hlen] at HR H hl ⊢
  clear h hlen
  obtain ⟨i0, hi0, hz0, hz1, hz2⟩ := info_parts Tryz.infoInt
  cases hr : rightB l with
  | false =>
    rw [hr] at HR
    have HV := Lib.hid (show pathR l pl = [] from by unfold pathR; rw [hr]; rfl)
    clear hr
    go_enter Tryz.func17, Tryz.ntmps17
    go_wp2_with fail
    refine HR.out.mono ?_
    rintro e w1 ⟨rfl, hb⟩
    go_wp2
    go_ret
    refine ⟨_, rfl, ?_, hb⟩
    rw [HV.out]
    exact World.ownsRow_nil _ _ _ _
  | true =>
    rw [hr] at HR
    have HRi := Lib.hid hr
    have HV := Lib.hid (show pathR l pl = onP l pl 0 len from by unfold pathR; rw [if_pos hr, HLe.out])
    clear hr
    go_enter Tryz.func17, Tryz.ntmps17
    go_wp2_with fail
    refine HR.out.mono ?_
    rintro e w1 ⟨rfl, hb⟩
    have HB1 := Lib.hid hb
    clear hb HR
    go_wp2
    go_loopw [5, 6] (fun v i wr => ∃ n : Nat, n ≤ len ∧ i = .int .i64 n ∧ Hid (OwnN w.heap.size wr v (onP l pl 0 n)) ∧ Below w.heap.size w wr) (fun _ i _ => len - (intOf i).toNat)
    case atStart => exact ⟨0, by omega, rfl, Lib.hid (World.ownsRow_nil _ _ _ _), HB1.out⟩
    case round =>
      obtain ⟨n, hn, rfl, HO, hbel⟩ := hrel
      have HB := Lib.hid hbel
      have hd := HO.out
      unfold OwnN at hd
      obtain ⟨va, vc, rfl⟩ := own_val hd
      clear hd
      by_cases hlt : n < len
      · have hlt' : (n : Int) < len := by omega
        have hnL : n < l.length := by rw [← HLe.out]; exact hlt
        have HT := Lib.hid (H.out.later hbel)
        obtain ⟨tb, toff, rfl, -, c2, c3, -⟩ := HT.out.at'.span hnL
        have HS := Lib.hid (fun u => rSpHas_any (atT l n).fr (atT l n).to pl u)
        rw [← hasB_shB HRi.out hnL] at HS
        have hsc := onP_succ l pl n
        have hle := onP_len l pl n
        obtain ⟨fr, hfr⟩ : ∃ x, x = (atT l n).fr := ⟨_, rfl⟩
        obtain ⟨tz, htz⟩ : ∃ x, x = (atT l n).to := ⟨_, rfl⟩
        rw [← hfr] at c2 HS
        rw [← htz] at c3 HS
        clear hfr htz hbel
        cases hh : hasB (atT l n) pl with
        | false =>
          rw [hh] at HS hsc
          simp only [Bool.false_eq_true, if_false, List.append_nil] at hsc
          have HSc := Lib.hid hsc
          clear hh hsc
          go_wp2_with fail
          refine (HS.out _).mono ?_
          rintro e w2 ⟨rfl, hb⟩
          have HO2 := Lib.hid (HO.out.later hb)
          have HB2 := Lib.hid (HB.out.trans (hb.mono HB.out.size))
          clear hb c2 c3 HS
          go_wp2
          go_roundw
          case rel => exact ⟨n + 1, by omega, by go_num, by rw [HSc.out]; exact HO2, HB2.out⟩
          case measure => simp [intOf]; omega
        | true =>
          rw [hh] at HS hsc
          simp only [if_true] at hsc
          have HSc := Lib.hid hsc
          clear hh hsc
          go_wp2_with fail
          refine (HS.out _).mono ?_
          rintro e w2 ⟨rfl, hb⟩
          have HO2 := Lib.hid (HO.out.later hb)
          have HB2 := Lib.hid (HB.out.trans (hb.mono HB.out.size))
          have hsz := HB2.out.size
          obtain ⟨dl, hdl⟩ : ∃ dl, dl = (onP l pl 0 n).length := ⟨_, rfl⟩
          have HDl := Lib.hid hdl
          have hown := HO2.out
          unfold OwnN at hown
          rw [← hdl] at hown hle ⊢
          clear hb c2 c3 HS HO hdl
          go_wp2_with (at_builtin; refine wpList_append_own _ rfl (.tmp 23) (.tmp 25) 27 rfl w.heap.size 3 i0 _ 1 8 Tryz.underlying27 hi0 hz0 hz1 hz2 rfl (by decide) _ dl _ rfl (hown.alloc _) ⟨w2.heap.size, 0, none⟩ 1 1 [.int .i64 n] rfl rfl (World.news_of_block (cs := #[.int .i64 n]) (t := 3) (fr := (0, 0)) (heap_alloc_new w2 _)) (by simp [Value.oneCell']) (by unfold maxLen; omega) (by omega) (by simp; omega) ?_; intro v' w3 hown' hgrow _)
          have HB3 := Lib.hid (HB2.out.trans (((Below.refl w.heap.size w2).alloc hsz _).grown hgrow (by simp; omega) (fun r hr => (hown.lt r hr).1)))
          have HO3 := Lib.hid (OwnN.snoc HDl.out hown')
          clear hown' hgrow hown
          go_wp2
          go_roundw
          case rel => exact ⟨n + 1, by omega, by go_num, by rw [HSc.out]; exact HO3, HB3.out⟩
          case measure => simp [intOf]; omega
      · have hlt' : ¬ (n : Int) < len := by omega
        obtain rfl : n = len := by omega
        go_wp2
        go_ret
        refine ⟨_, rfl, ?_, hbel⟩
        rw [HV.out]
        exact HO.out
end Go.Proofs.YtadkjjpopmiceaaGreat
namespace Go.Proofs.YtadkjjpopmiceaaGreat
open Go.RowKit Go.Lib

theorem parV_at {l : List Tw} {k : Nat} (hr : rightB l = true) (hk : k < l.length) : parV l k = (match parF l k with
    | some p => .tuple #[.int .i64 (p : Int), .bool true]
    | none => .tuple #[.int .i64 0, .bool false]) := by
  unfold parV hasR
  rw [hr, show decide ((0 : Int) ≤ (k : Int) ∧ (k : Int) < l.length) = true from by simp; omega]
  simp only [Bool.and_true, if_true, Int.toNat_natCast]
  cases parF l k <;> rfl
theorem parV_yes {l : List Tw} {k p : Nat} (hr : rightB l = true) (hk : k < l.length) (hp : Par l k p) : parV l k = .tuple #[.int .i64 (p : Int), .bool true] := by
  rw [parV_at hr hk, parF_some hp.1 hp.in hp.above]
theorem parV_no {l : List Tw} {k : Nat} (hr : rightB l = true) (hk : k < l.length) (hp : ∀ p, p < k → ¬ Par l k p) : parV l k = .tuple #[.int .i64 0, .bool false] := by
  rw [parV_at hr hk]
  rcases right_par ((rightB_iff l).1 hr) hk with ⟨p, h1, -⟩ | ⟨-, h2⟩
  · exact absurd h1 (hp p h1.1)
  · rw [parF_none h2]
theorem rowD_of {l : List Tw} {n m : Nat} {ks : List Nat} (h : Sub l n m ks) : rowD l n = ks := by
  obtain ⟨h1, h2, h3, h4⟩ := h
  unfold rowD
  rw [show (atT l n).kids.toNat = ks.length from by omega, h4.rowL]
  rfl
set_option maxRecDepth 100000 in
set_option maxHeartbeats 2000000 in
theorem rParent_any (v : Value) (l : List Tw) (n : Int) (w : World) (h : TwRow w v l) :
    Calls Tryz.prog 22 #[v, .int .i64 n] w fun e w' => e = .returned (parV l n) ∧ Below w.heap.size w w' := by
  have HH := Lib.hid (rHas_any v l n w h)
  have H := Lib.hid h
  obtain ⟨ao, cap, rfl⟩ := h.at'.val
  have hl := h.len
  obtain ⟨len, hlen⟩ : ∃ len, len = l.length := ⟨_, rfl⟩
  have HLe := Lib.hid hlen
  rw [← hlen] at HH H hl ⊢
  clear h hlen
  cases hh : hasR l n with
  | false =>
    rw [hh] at HH
    have HV := Lib.hid (show parV l n = .tuple #[.int .i64 0, .bool false] from by unfold parV; rw [hh]; rfl)
    clear hh
    go_enter Tryz.func22, Tryz.ntmps22
    go_wp2_with fail
    refine HH.out.mono ?_
    rintro e w1 ⟨rfl, hb⟩
    go_wp2
    exact bodyPost_ret (v := .tuple #[.int .i64 0, .bool false]) (by simp [results, Tryz.f22, go_sem]) rfl ⟨by rw [HV.out], hb⟩
  | true =>
    obtain ⟨k, rfl, hk, hr⟩ := hasR_at hh
    rw [hh] at HH
    have HRi := Lib.hid hr
    have HKl := Lib.hid hk
    rw [← HLe.out] at hk
    clear hh hr
    go_enter Tryz.func22, Tryz.ntmps22
    go_wp2_with fail
    refine HH.out.mono ?_
    rintro e w1 ⟨rfl, hb⟩
    have HB1 := Lib.hid hb
    clear hb HH
    go_wp2
    go_loopw [6] (fun i wr => ∃ p : Nat, p ≤ k ∧ i = .int .i64 p ∧ Hid (∀ q, q < p → ¬ Par l k q) ∧ Below w.heap.size w wr) (fun i _ => k - (intOf i).toNat)
    case atStart => exact ⟨0, by omega, rfl, Lib.hid (fun q hq => absurd hq (by omega)), HB1.out⟩
    case round =>
      obtain ⟨p, hp, rfl, HI, hbel⟩ := hrel
      have HB := Lib.hid hbel
      by_cases hlt : p < k
      · have hlt' : (p : Int) < k := by omega
        have hpL : p < l.length := by have := HKl.out; omega
        have HT := Lib.hid (H.out.later hbel)
        obtain ⟨tb, toff, rfl, -, -, -, c4⟩ := HT.out.at'.span hpL
        obtain ⟨m, ks, hs⟩ := ((rightB_iff l).1 HRi.out).sub hpL
        have hrd := rowD_of hs
        have HS := Lib.hid hs
        obtain ⟨kk, hkk⟩ : ∃ kk, kk = (atT l p).kids := ⟨_, rfl⟩
        rw [← hkk] at c4
        have HKk := Lib.hid hkk
        have HRd := Lib.hid hrd
        have HC := Lib.hid (rRow_any H.out.len (p + 1) kk _ wr HT.out.at' (by omega))
        have hpl' : (p : Int) < len := by omega
        clear hbel hs hkk hrd
        go_wp2_with fail
        refine HC.out.mono ?_
        rintro e w2 ⟨v', rfl, ho, hb⟩
        rw [HKk.out] at ho
        have hnm := (show OwnN wr.heap.size w2 v' ks from by rw [← HRd.out]; exact ho).nm
        have HB2 := Lib.hid (HB.out.trans (hb.mono HB.out.size))
        obtain ⟨ka, kc, rfl, hk1, hk2⟩ := hnm.val
        obtain ⟨rn, hrn⟩ : ∃ rn, rn = ks.length := ⟨_, rfl⟩
        have HRn := Lib.hid hrn
        rw [← hrn] at hnm hk1 ⊢
        have hrn2 : rn ≤ 9223372036854775807 := by unfold maxLen at hk2; omega
        have HN := Lib.hid hnm
        clear ho hb hnm hrn hk1 hk2 c4 HC
        go_wp2
        go_loopw [9] (fun i wr => ∃ q : Nat, q ≤ rn ∧ i = .int .i64 q ∧ Below w2.heap.size w2 wr ∧ Hid (∀ j (hj : j < ks.length), j < q → ks[j] ≠ k)) (fun i _ => rn - (intOf i).toNat)
        case atStart => exact ⟨0, by omega, rfl, Below.refl _ _, Lib.hid (fun j hj h0 => absurd h0 (by omega))⟩
        case round =>
          obtain ⟨q, hq, rfl, hbel, HJ⟩ := hrel
          have HB3 := Lib.hid (HB2.out.trans (hbel.mono HB2.out.size))
          by_cases hql : q < rn
          · have hql' : (q : Int) < rn := by omega
            have hqR : q < ks.length := by rw [← HRn.out]; exact hql
            obtain ⟨kb, ko, rfl, hkb, k0⟩ := (HN.out.later hbel).cells (i := q) hqR
            have hmem : ks[q] ∈ ks := List.getElem_mem _
            obtain ⟨r, hr⟩ : ∃ r, r = ks[q] := ⟨_, rfl⟩
            rw [← hr] at k0 hmem
            have HRe := Lib.hid hr
            have HMe := Lib.hid hmem
            have HBk := Lib.hid hbel
            clear hr hmem hbel
            by_cases he : r = k
            · have HV := Lib.hid (show parV l k = .tuple #[.int .i64 (p : Int), .bool true] from parV_yes HRi.out HKl.out ⟨hlt, m, ks, HS.out, by rw [← he]; exact HMe.out⟩)
              subst he
              go_wp2
              exact bodyPost_ret (v := .tuple #[.int .i64 (p : Int), .bool true]) (by simp [results, Tryz.f22, go_sem]) rfl ⟨by rw [HV.out], HB3.out⟩
            · have he' : ¬ (r : Int) = k := by omega
              have HNe := Lib.hid he
              clear he
              go_wp2
              go_roundw
              case rel => exact ⟨q + 1, by omega, by go_num, HBk.out, Lib.hid (fun j hj hjq => by
                by_cases hjq2 : j = q
                · subst hjq2; rw [← HRe.out]; exact HNe.out
                · exact HJ.out j hj (by omega))⟩
              case measure => simp [intOf]; omega
          · have hql' : ¬ (q : Int) < rn := by omega
            have HNo := Lib.hid (show ¬ Par l k p from fun hpar => by
              obtain ⟨-, m', ks', hs', hm⟩ := hpar
              obtain ⟨-, rfl⟩ := HS.out.kids_uniq hs'
              obtain ⟨j, hj, hje⟩ := List.getElem_of_mem hm
              exact HJ.out j hj (by have := HRn.out; omega) hje)
            clear hbel
            go_wp2
            go_roundw
            case rel => exact ⟨p + 1, by omega, by go_num, Lib.hid (fun q hq => by
              by_cases hqp : q = p
              · subst hqp; exact HNo.out
              · exact HI.out q (by omega)), HB3.out⟩
            case measure => simp [intOf]; omega
      · have hlt' : ¬ (p : Int) < k := by omega
        have HV := Lib.hid (show parV l k = .tuple #[.int .i64 0, .bool false] from parV_no HRi.out HKl.out (fun q hq => HI.out q (by omega)))
        go_wp2
        exact bodyPost_ret (v := .tuple #[.int .i64 0, .bool false]) (by simp [results, Tryz.f22, go_sem]) rfl ⟨by rw [HV.out], hbel⟩
end Go.Proofs.YtadkjjpopmiceaaGreat
