import Derived.Test.YtadkjjpopmiceaaGreatSpm
namespace Go.Proofs.YtadkjjpopmiceaaGreat
open Go.RowKit Go.Lib

def aftV (l : List Tw) (n : Nat) : Int := match rAft l n with
  | some m => (m : Int)
  | none => -1
theorem skn_ge : ∀ (l : List Tw) (k i : Nat), skn l k = some i → k ≤ i
  | l, 0, i, h => Nat.zero_le _
  | [], k + 1, i, h => by simp [skn] at h
  | t :: r, k + 1, i, h => by
    simp only [skn] at h
    split at h
    · cases h
    · simp only [Option.map_eq_some_iff] at h
      obtain ⟨j, hj, rfl⟩ := h
      have := skn_ge r _ _ hj
      omega
theorem rAfter_out {l : List Tw} (v : Value) (n : Nat) (w : World) (h : TwAt w v l) (hn : l.length ≤ n) : Calls Tryz.prog 60 #[v, .int .i64 n] w fun e w' => e = .returned (.int .i64 (aftV l n)) ∧ w = w' := by
  have hv : aftV l n = -1 := by unfold aftV; rw [rAft_out l hn]
  obtain ⟨ao, cap, rfl⟩ := h.val
  obtain ⟨len, hlen⟩ : ∃ len, len = l.length := ⟨_, rfl⟩
  rw [← hlen] at hn ⊢
  have hn' : (len : Int) ≤ n := by omega
  rw [hv]
  clear h hlen hv
  go_enter Tryz.func60, Tryz.ntmps60
  go_wp2
  go_ret
  exact ⟨rfl, rfl⟩
set_option maxHeartbeats 1000000 in
theorem rAfter_all {l : List Tw} (hl : l.length ≤ 1000000) : ∀ (d n : Nat), l.length - n ≤ d → ∀ (v : Value) (w : World), TwAt w v l →
    Calls Tryz.prog 60 #[v, .int .i64 n] w fun e w' => e = .returned (.int .i64 (aftV l n)) ∧ w = w' := by
  intro d
  induction d with
  | zero => intro n hd v w h; exact rAfter_out v n w h (by omega)
  | succ d ih =>
    intro n hd v w h
    by_cases hn : n < l.length
    · have H := Lib.hid h
      have Ih := Lib.hid ih
      obtain ⟨ao, cap, rfl⟩ := h.val
      obtain ⟨b, off, rfl, -, -, -, -, -, e4⟩ := h.cells.2.2.2.2 n hn
      obtain ⟨kk, hkk⟩ : ∃ kk, kk = (atT l n).kids := ⟨_, rfl⟩
      rw [← atT_get l hn, ← hkk] at e4
      have HK := Lib.hid hkk
      obtain ⟨len, hlen⟩ : ∃ len, len = l.length := ⟨_, rfl⟩
      have HLe := Lib.hid hlen
      rw [← hlen] at hl H hn hd ⊢
      have hn' : (n : Int) < len := by omega
      have hn2 : ¬ (len : Int) ≤ n := by omega
      clear h ih hkk hlen
      by_cases hk0 : kk < 0
      · have hv : aftV l n = -1 := by unfold aftV; rw [rAft_neg l (by rw [← HLe.out]; exact hn) (by rw [← HK.out]; exact hk0)]
        rw [hv]
        clear hv
        go_enter Tryz.func60, Tryz.ntmps60
        go_wp2
        go_ret
        exact ⟨rfl, rfl⟩
      · obtain ⟨K, rfl⟩ : ∃ K : Nat, kk = K := ⟨kk.toNat, by omega⟩
        have HA := Lib.hid (show rAft l n = (skn (l.drop (n + 1)) K).map (n + 1 + ·) from by
          have := rAft_eq l (n := n) (by rw [← HLe.out]; exact hn) (by rw [← HK.out]; exact hk0)
          rwa [← HK.out, Int.toNat_natCast] at this)
        go_enter Tryz.func60, Tryz.ntmps60
        go_wp2
        go_loop [5, 6] (fun a c => ∃ i j : Nat, a = .int .i64 ((n + 1 + i : Nat) : Int) ∧ c = .int .i64 j ∧ j ≤ i ∧ j ≤ K ∧ n + 1 + i ≤ len ∧ Hid (skn (l.drop (n + 1)) j = some i)) (fun a _ => len - (intOf a).toNat)
        case atStart => exact ⟨0, 0, by go_num, rfl, by omega, by omega, by omega, Lib.hid (skn_zero _)⟩
        case round =>
          obtain ⟨i, j, rfl, rfl, hji, hjK, hil, HS⟩ := hrel
          obtain ⟨p, hp⟩ : ∃ p, p = n + 1 + i := ⟨_, rfl⟩
          rw [← hp] at hil ⊢
          have HP := Lib.hid hp
          have hj2 : j ≤ 1000000 := by omega
          clear hp
          by_cases hj : j < K
          · have hj' : (j : Int) < K := by omega
            have hnx := skn_next l HS.out
            rw [← HP.out] at hnx
            have HC := Lib.hid (Ih.out p (by have := HP.out; have := HLe.out; omega) (.slice (some ⟨b, off, none⟩) len cap) w H.out)
            cases hr : rAft l p with
            | none =>
              have ha : aftV l p = -1 := by unfold aftV; rw [hr]
              rw [hr] at hnx
              rw [ha] at HC
              have hz := skn_none l hnx (j := K) (by omega)
              have hv : aftV l n = -1 := by unfold aftV; rw [HA.out, hz]; rfl
              have HV := Lib.hid hv
              clear hv hz ha hr hnx
              go_wp2_with fail
              refine HC.out.mono ?_
              rintro e w' ⟨rfl, rfl⟩
              go_wp2
              go_ret
              exact ⟨by rw [HV.out]; rfl, rfl⟩
            | some m =>
              have ha : aftV l p = m := by unfold aftV; rw [hr]
              rw [hr] at hnx
              rw [ha] at HC
              have hlt := rAft_lt l hr
              obtain ⟨hm1, hm2, -⟩ := hlt
              rw [← HLe.out] at hm2
              have HN := Lib.hid hnx
              have hm0 : ¬ (m : Int) < 0 := by omega
              clear ha hr hnx
              go_wp2_with fail
              refine HC.out.mono ?_
              rintro e w' ⟨rfl, rfl⟩
              go_wp2
              go_round
              case rel =>
                have := HP.out
                exact ⟨m - (n + 1), j + 1, by rw [show n + 1 + (m - (n + 1)) = m from by omega], by go_num, by omega, by omega, by omega, Lib.hid (by rw [HN.out]; rfl)⟩
              case measure => simp [intOf]; omega
          · obtain rfl : j = K := by omega
            have hj' : ¬ (j : Int) < j := by omega
            have hv : aftV l n = p := by unfold aftV; rw [HA.out, HS.out, HP.out]; rfl
            have HV := Lib.hid hv
            clear hv
            go_wp2
            go_ret
            exact ⟨by rw [HV.out]; rfl, rfl⟩
    · exact rAfter_out v n w h (by omega)
theorem rAfter_any {l : List Tw} (hl : l.length ≤ 1000000) (n : Nat) (v : Value) (w : World) (h : TwAt w v l) :
    Calls Tryz.prog 60 #[v, .int .i64 n] w fun e w' => e = .returned (.int .i64 (aftV l n)) ∧ w = w' := rAfter_all hl _ n (Nat.le_refl _) v w h
/-- one more number behind a row of the call's own. -/
theorem OwnN.snoc {B dl : Nat} {w : World} {v : Value} {done : List Nat} {i : Nat} (hd : dl = done.length) (h : w.ownsRow B 3 1 v (dl + 1) (nats done ++ [.int .i64 (i : Int)])) : OwnN B w v (done ++ [i]) := by
  unfold OwnN
  simp only [nats, List.map_append, List.length_append, List.map_cons, List.map_nil, List.length_singleton]
  rw [← hd]
  exact h
theorem rowL_none {l : List Tw} {K j n : Nat} (h : j < K) (hr : rAft l n = none) : rowL l (K - j) n = none := by
  obtain ⟨d, hd⟩ : ∃ d, K - j = d + 1 := ⟨K - j - 1, by omega⟩
  rw [hd]
  simp [rowL, hr]
theorem rowL_some {l : List Tw} {K j n m : Nat} (h : j < K) (hr : rAft l n = some m) : rowL l (K - j) n = (rowL l (K - (j + 1)) m).map (n :: ·) := by
  obtain ⟨d, hd⟩ : ∃ d, K - j = d + 1 := ⟨K - j - 1, by omega⟩
  rw [hd, show K - (j + 1) = d from by omega]
  simp [rowL, hr]
set_option maxRecDepth 100000 in
set_option maxHeartbeats 2000000 in
theorem rRow_any {l : List Tw} (hl : l.length ≤ 1000000) (n : Nat) (k : Int) (v : Value) (w : World) (h : TwAt w v l) (hn : n ≤ l.length) :
    Calls Tryz.prog 48 #[v, .int .i64 n, .int .i64 k] w fun e w' => ∃ v', e = .returned (.tuple #[v', .bool (rowL l k.toNat n).isSome]) ∧ OwnN w.heap.size w' v' ((rowL l k.toNat n).getD []) ∧ Below w.heap.size w w' := by
  have H := Lib.hid h
  obtain ⟨ao, cap, rfl⟩ := h.val
  obtain ⟨len, hlen⟩ : ∃ len, len = l.length := ⟨_, rfl⟩
  have HLe := Lib.hid hlen
  rw [← hlen] at hl H hn ⊢
  obtain ⟨i0, hi0, hz0, hz1, hz2⟩ := info_parts Tryz.infoInt
  obtain ⟨K, hK⟩ : ∃ K, K = k.toNat := ⟨_, rfl⟩
  rw [← hK]
  clear h hlen
  go_enter Tryz.func48, Tryz.ntmps48
  go_wp2
  go_loopw [1, 8, 9] (fun p v c wr => ∃ (i j : Nat) (done : List Nat), p = .int .i64 i ∧ c = .int .i64 j ∧ OwnN w.heap.size wr v done ∧ Below w.heap.size w wr ∧ i ≤ len ∧ j ≤ K ∧ j ≤ i ∧ done.length ≤ i ∧ Hid (rowL l K n = (rowL l (K - j) i).map (done ++ ·))) (fun p _ _ _ => len - (intOf p).toNat)
  case atStart => exact ⟨n, 0, [], rfl, rfl, World.ownsRow_nil _ _ _ _, Below.refl _ _, hn, by omega, by omega, by simp, Lib.hid (by simp)⟩
  case round =>
    obtain ⟨i, j, done, rfl, rfl, hown, hbel, hil, hjK, hji, hdl, HR⟩ := hrel
    by_cases hj : j < K
    · have hj' : (j : Int) < k := by omega
      have hsz := hbel.size
      have hdl2 : done.length ≤ 1000000 := by omega
      have HOwn := Lib.hid hown
      unfold OwnN at hown
      obtain ⟨dl, hdlv⟩ : ∃ dl, dl = done.length := ⟨_, rfl⟩
      rw [← hdlv] at hown hdl hdl2
      have HDl := Lib.hid hdlv
      have HB := Lib.hid hbel
      clear hdlv hbel
      go_wp2_with (at_builtin; refine wpList_append_own _ rfl (.tmp 15) (.tmp 17) 27 rfl w.heap.size 3 i0 _ 1 8 Tryz.underlying27 hi0 hz0 hz1 hz2 rfl (by decide) _ dl _ rfl (hown.alloc _) ⟨wr.heap.size, 0, none⟩ 1 1 [.int .i64 i] rfl rfl (World.news_of_block (cs := #[.int .i64 i]) (t := 3) (fr := (0, 0)) (heap_alloc_new wr _)) (by simp [Value.oneCell']) (by unfold maxLen; omega) (by omega) (by simp; omega) ?_; intro v' w1 hown' hgrow _)
      have HB1 := Lib.hid (HB.out.trans (((Below.refl w.heap.size wr).alloc hsz _).grown hgrow (by simp; omega) (fun r hr => (HOwn.out.lt r hr).1)))
      have HO1 := Lib.hid (OwnN.snoc HDl.out hown')
      have HC := Lib.hid (rAfter_any (by rw [← HLe.out]; exact hl) i _ w1 (H.out.later HB1.out))
      clear hown' hgrow hown
      cases hr : rAft l i with
      | none =>
        have ha : aftV l i = -1 := by unfold aftV; rw [hr]
        rw [ha] at HC
        have hz : rowL l K n = none := by rw [HR.out, rowL_none hj hr]; rfl
        have HZ := Lib.hid hz
        clear ha hr hz
        refine HC.out.mono ?_
        rintro e w2 ⟨rfl, rfl⟩
        go_wp2
        refine bodyPost_ret (v := .tuple #[.slice none 0 0, .bool false]) (by simp [results, Tryz.f48, go_sem]) rfl ⟨.slice none 0 0, by rw [HZ.out]; rfl, ?_, HB1.out⟩
        rw [HZ.out]
        exact World.ownsRow_nil _ _ _ _
      | some m =>
        have ha : aftV l i = m := by unfold aftV; rw [hr]
        rw [ha] at HC
        have hlt := rAft_lt l hr
        obtain ⟨hm1, hm2, -⟩ := hlt
        rw [← HLe.out] at hm2
        have HR2 := Lib.hid (show rowL l K n = (rowL l (K - (j + 1)) m).map ((done ++ [i]) ++ ·) from by rw [HR.out, rowL_some hj hr, Option.map_map]; congr 1; funext x; simp)
        have hm0 : ¬ (m : Int) < 0 := by omega
        clear ha hr
        refine HC.out.mono ?_
        rintro e w2 ⟨rfl, rfl⟩
        go_wp2
        go_roundw
        case rel => exact ⟨m, j + 1, done ++ [i], rfl, by go_num, HO1.out, HB1.out, hm2, by omega, by omega, by have := HDl.out; simp; omega, HR2⟩
        case measure => simp [intOf]; omega
    · have hj' : ¬ (j : Int) < k := by omega
      obtain rfl : j = K := by omega
      have HR2 := Lib.hid (show rowL l j n = some done from by rw [HR.out, Nat.sub_self]; simp [rowL])
      have hd := hown
      unfold OwnN at hd
      obtain ⟨va, vc, rfl⟩ := own_val hd
      have HO := Lib.hid hown
      have HB := Lib.hid hbel
      clear hd hown hbel
      go_wp2
      refine bodyPost_ret (v := .tuple #[.slice va done.length vc, .bool true]) (by simp [results, Tryz.f48, go_sem]) rfl ⟨.slice va done.length vc, by rw [← hK, HR2.out]; rfl, ?_, HB.out⟩
      rw [← hK, HR2.out]
      exact HO.out
theorem rootsL_none {l : List Tw} {f n : Nat} (hn : n < l.length) (hr : rAft l n = none) : rootsL l f n = none := by
  cases f <;> simp [rootsL, hn, hr]
set_option maxRecDepth 100000 in
set_option maxHeartbeats 2000000 in
theorem rRoots_any {l : List Tw} (hl : l.length ≤ 1000000) (v : Value) (w : World) (h : TwAt w v l) :
    Calls Tryz.prog 45 #[v] w fun e w' => ∃ v', e = .returned (.tuple #[v', .bool (rootsL l l.length 0).isSome]) ∧ OwnN w.heap.size w' v' ((rootsL l l.length 0).getD []) ∧ Below w.heap.size w w' := by
  have H := Lib.hid h
  obtain ⟨ao, cap, rfl⟩ := h.val
  obtain ⟨len, hlen⟩ : ∃ len, len = l.length := ⟨_, rfl⟩
  have HLe := Lib.hid hlen
  rw [← hlen] at hl H ⊢
  obtain ⟨i0, hi0, hz0, hz1, hz2⟩ := info_parts Tryz.infoInt
  clear h hlen
  go_enter Tryz.func45, Tryz.ntmps45
  go_wp2
  go_loopw [4, 5] (fun v p wr => ∃ (i f : Nat) (done : List Nat), p = .int .i64 i ∧ OwnN w.heap.size wr v done ∧ Below w.heap.size w wr ∧ i ≤ len ∧ f + done.length = len ∧ done.length ≤ i ∧ Hid (rootsL l len 0 = (rootsL l f i).map (done ++ ·))) (fun _ p _ => len - (intOf p).toNat)
  case atStart => exact ⟨0, len, [], rfl, World.ownsRow_nil _ _ _ _, Below.refl _ _, by omega, by simp, by simp, Lib.hid (by simp)⟩
  case round =>
    obtain ⟨i, f, done, rfl, hown, hbel, hil, hfl, hdl, HR⟩ := hrel
    by_cases hi : i < len
    · have hi' : (i : Int) < len := by omega
      have hiL : i < l.length := by rw [← HLe.out]; exact hi
      have hsz := hbel.size
      have hdl2 : done.length ≤ 1000000 := by omega
      have HOwn := Lib.hid hown
      unfold OwnN at hown
      obtain ⟨dl, hdlv⟩ : ∃ dl, dl = done.length := ⟨_, rfl⟩
      rw [← hdlv] at hown hdl hdl2 hfl
      have HDl := Lib.hid hdlv
      have HB := Lib.hid hbel
      obtain ⟨f, rfl⟩ : ∃ g, f = g + 1 := ⟨f - 1, by omega⟩
      clear hdlv hbel
      go_wp2_with (at_builtin; refine wpList_append_own _ rfl (.tmp 10) (.tmp 12) 27 rfl w.heap.size 3 i0 _ 1 8 Tryz.underlying27 hi0 hz0 hz1 hz2 rfl (by decide) _ dl _ rfl (hown.alloc _) ⟨wr.heap.size, 0, none⟩ 1 1 [.int .i64 i] rfl rfl (World.news_of_block (cs := #[.int .i64 i]) (t := 3) (fr := (0, 0)) (heap_alloc_new wr _)) (by simp [Value.oneCell']) (by unfold maxLen; omega) (by omega) (by simp; omega) ?_; intro v' w1 hown' hgrow _)
      have HB1 := Lib.hid (HB.out.trans (((Below.refl w.heap.size wr).alloc hsz _).grown hgrow (by simp; omega) (fun r hr => (HOwn.out.lt r hr).1)))
      have HO1 := Lib.hid (OwnN.snoc HDl.out hown')
      have HC := Lib.hid (rAfter_any (by rw [← HLe.out]; exact hl) i _ w1 (H.out.later HB1.out))
      clear hown' hgrow hown
      cases hr : rAft l i with
      | none =>
        have ha : aftV l i = -1 := by unfold aftV; rw [hr]
        rw [ha] at HC
        have hz : rootsL l len 0 = none := by rw [HR.out, rootsL_none hiL hr]; rfl
        have HZ := Lib.hid hz
        clear ha hr hz
        refine HC.out.mono ?_
        rintro e w2 ⟨rfl, rfl⟩
        go_wp2
        refine bodyPost_ret (v := .tuple #[.slice none 0 0, .bool false]) (by simp [results, Tryz.f45, go_sem]) rfl ⟨.slice none 0 0, ?_, ?_, HB1.out⟩
        · rw [HZ.out]; rfl
        · rw [HZ.out]
          exact World.ownsRow_nil _ _ _ _
      | some m =>
        have ha : aftV l i = m := by unfold aftV; rw [hr]
        rw [ha] at HC
        have hlt := rAft_lt l hr
        obtain ⟨hm1, hm2, -⟩ := hlt
        rw [← HLe.out] at hm2
        have HR2 := Lib.hid (show rootsL l len 0 = (rootsL l f m).map ((done ++ [i]) ++ ·) from by rw [HR.out, rootsL, if_pos hiL, hr, Option.bind_some, Option.map_map]; congr 1; funext x; simp)
        have hm0 : ¬ (m : Int) < 0 := by omega
        clear ha hr
        refine HC.out.mono ?_
        rintro e w2 ⟨rfl, rfl⟩
        go_wp2
        go_roundw
        case rel => exact ⟨m, f, done ++ [i], rfl, HO1.out, HB1.out, hm2, by have := HDl.out; simp; omega, by have := HDl.out; simp; omega, HR2⟩
        case measure => simp [intOf]; omega
    · have hi' : ¬ (i : Int) < len := by omega
      have HR2 := Lib.hid (show rootsL l len 0 = some done from by
        rw [HR.out]
        have : ¬ i < l.length := by rw [← HLe.out]; exact hi
        cases f <;> simp [rootsL, this])
      have hd := hown
      unfold OwnN at hd
      obtain ⟨va, vc, rfl⟩ := own_val hd
      have HO := Lib.hid hown
      have HB := Lib.hid hbel
      clear hd hown hbel
      go_wp2
      refine bodyPost_ret (v := .tuple #[.slice va done.length vc, .bool true]) (by simp [results, Tryz.f45, go_sem]) rfl ⟨.slice va done.length vc, ?_, ?_, HB.out⟩
      · rw [HR2.out]; rfl
      · rw [HR2.out]
        exact HO.out
theorem apart_drop {l : List Tw} {rs : List Nat} {q : Nat} (h : q + 1 < rs.length) : apartB l (rs.drop q) = (decide ((atT l rs[q]).to ≤ (atT l rs[q + 1]).fr) && apartB l (rs.drop (q + 1))) := by
  rw [List.drop_eq_getElem_cons (show q < rs.length by omega), List.drop_eq_getElem_cons h]
  rfl
theorem apart_end {l : List Tw} {rs : List Nat} {q : Nat} (h : rs.length ≤ q + 1) : apartB l (rs.drop q) = true := by
  have : (rs.drop q).length ≤ 1 := by simp; omega
  match hx : rs.drop q with
  | [] => rfl
  | [a] => rfl
  | a :: b :: r => rw [hx] at this; simp at this
set_option maxHeartbeats 2000000 in
theorem rApart_any {l : List Tw} {rs : List Nat} (v vk : Value) (w : World) (h : TwAt w v l) (hk : NmAt w vk rs) (hr : ∀ r ∈ rs, r < l.length) (hl : l.length ≤ 1000000) :
    Calls Tryz.prog 46 #[v, vk] w fun e w' => e = .returned (.bool (apartB l rs)) ∧ Below w.heap.size w w' := by
  have H := Lib.hid h
  have HK := Lib.hid hk
  have HRs := Lib.hid hr
  obtain ⟨ao, cap, rfl⟩ := h.val
  obtain ⟨ka, kc, rfl, hk1, hk2, -⟩ := hk
  obtain ⟨len, hlen⟩ : ∃ len, len = l.length := ⟨_, rfl⟩
  obtain ⟨rn, hrn⟩ : ∃ rn, rn = rs.length := ⟨_, rfl⟩
  have HLe := Lib.hid hlen
  have HRn := Lib.hid hrn
  rw [← hlen] at H hl ⊢
  rw [← hrn] at HK hk1 ⊢
  unfold maxLen at hk2
  clear h hr hlen hrn
  go_enter Tryz.func46, Tryz.ntmps46
  go_wp2
  go_loopw [5] (fun i wr => ∃ q : Nat, i = .int .i64 ((q : Int) + 1) ∧ q ≤ rn ∧ Below w.heap.size w wr ∧ Hid (apartB l rs = apartB l (rs.drop q))) (fun i _ => rn + 1 - (intOf i).toNat)
  case atStart => exact ⟨0, by go_num, by omega, Below.refl _ _, Lib.hid (by simp)⟩
  case round =>
    obtain ⟨q, rfl, hq, hbel, HA⟩ := hrel
    by_cases hlt : q + 1 < rn
    · have hlt' : (q : Int) + 1 < rn := by omega
      have hwq : IntKind.i64.wrap ((q : Int) + 1 - 1) = (q : Int) := (IntWalk.i64_in _ (by omega)).trans (by omega)
      have hc := fun i hi => (HK.out.later hbel).cells (i := i) hi
      have h1 := hc (q + 1) (by rw [← HRn.out]; exact hlt)
      have h0 := hc q (by rw [← HRn.out]; omega)
      obtain ⟨kb, ko, rfl, hkb, k0⟩ := h0
      obtain ⟨kb', ko', he, hkb', k1⟩ := h1
      simp only [Option.some.injEq, Addr.mk.injEq, and_true] at he
      obtain ⟨rfl, rfl⟩ := he
      have hap := apart_drop (l := l) (rs := rs) (q := q) (by rw [← HRn.out]; exact hlt)
      obtain ⟨r0, hr0⟩ : ∃ r, r = rs[q]'(by rw [← HRn.out]; omega) := ⟨_, rfl⟩
      obtain ⟨r1, hr1⟩ : ∃ r, r = rs[q + 1]'(by rw [← HRn.out]; exact hlt) := ⟨_, rfl⟩
      have hl0 := HRs.out r0 (by rw [hr0]; exact List.getElem_mem _)
      have hl1 := HRs.out r1 (by rw [hr1]; exact List.getElem_mem _)
      rw [← hr0] at k0 hap
      rw [← hr1] at k1 hap
      have HTw := Lib.hid (H.out.later hbel)
      obtain ⟨b, off, rfl, -, -, c0, -⟩ := HTw.out.span hl0
      obtain ⟨b', off', he, -, c1, -, -⟩ := HTw.out.span hl1
      simp only [Option.some.injEq, Addr.mk.injEq, and_true] at he
      obtain ⟨rfl, rfl⟩ := he
      rw [← HLe.out] at hl0 hl1
      obtain ⟨tz, htz⟩ : ∃ tz, tz = (atT l r0).to := ⟨_, rfl⟩
      obtain ⟨fz, hfz⟩ : ∃ fz, fz = (atT l r1).fr := ⟨_, rfl⟩
      rw [← htz] at c0 hap
      rw [← hfz] at c1 hap
      have hl0' : (r0 : Int) < len := by omega
      have hl1' : (r1 : Int) < len := by omega
      have k1 : wr.cell? ⟨kb, ko + (q + 1), none⟩ = some (.int .i64 (r1 : Int)) := k1
      have hq1 : (q : Int) < rn := by omega
      have HB := Lib.hid hbel
      have HAp := Lib.hid hap
      clear hc hap hr0 hr1 htz hfz hbel
      by_cases hf : fz < tz
      · go_wp2_with fail
        go_quiet (fail)
        go_wp2
        go_ret
        exact ⟨ret_bool (by rw [HA.out, HAp.out]; simp; omega), below_draws HB.out _⟩
      · go_wp2_with fail
        go_quiet (fail)
        go_wp2
        go_roundw
        case rel => exact ⟨q + 1, by go_num, by omega, below_draws HB.out _, Lib.hid (by rw [HA.out, HAp.out]; simp; omega)⟩
        case measure => simp [intOf]; omega
    · have hlt' : ¬ (q : Int) + 1 < rn := by omega
      have HAp := Lib.hid (apart_end (l := l) (rs := rs) (q := q) (by rw [← HRn.out]; omega))
      go_wp2
      go_ret
      exact ⟨ret_bool (by rw [HA.out, HAp.out]), hbel⟩
end Go.Proofs.YtadkjjpopmiceaaGreat
