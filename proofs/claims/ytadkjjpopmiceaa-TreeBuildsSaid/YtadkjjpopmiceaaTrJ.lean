/-
  tree.Height.
-/
import Derived.Test.YtadkjjpopmiceaaTrI
import Derived.Test.YtadkjjpopmiceaaTrJ0
namespace Go.Proofs.Ytadkjjpopmiceaa
open Go.RowKit Go.Lib

theorem own_last {B : Nat} {w : World} {v : Value} {x : Nat} {E : List Nat} (h : OwnN B w v (x :: E).reverse) : ∃ g cap, v = .slice (some ⟨g, 0, none⟩) (E.length + 1) cap ∧ E.length + 1 ≤ cap ∧ cap ≤ maxLen ∧ w.cell? ⟨g, E.length, none⟩ = some (.int .i64 x) := by
  unfold OwnN at h
  rw [show (x :: E).reverse.length = E.length + 1 from by simp] at h
  obtain ⟨g, cap, rfl⟩ := own_shape h (by omega)
  obtain ⟨h0, hb, cur, hg, h1, h2, h3, ht⟩ := own_open h
  refine ⟨g, cap, rfl, h1, h2, ?_⟩
  rw [(block_cell' hg _).1]
  have h4 : (cur.toList.take ((E.length + 1) * 1))[E.length]? = some (.int .i64 x) := by rw [ht]; simp
  rw [List.getElem?_take_of_lt (by omega)] at h4
  simpa using h4
theorem own_butlast {B : Nat} {w : World} {g n cap x : Nat} {E : List Nat} (h : OwnN B w (.slice (some ⟨g, 0, none⟩) n cap) (x :: E).reverse) (hn : n = E.length + 1) : OwnN B w (.slice (some ⟨g, 0, none⟩) E.length cap) E.reverse := by
  unfold OwnN at h ⊢
  rw [show (x :: E).reverse.length = n from by simp [hn]] at h
  obtain ⟨h0, hb, cur, hg, h1, h2, h3, ht⟩ := own_open h
  rw [show E.reverse.length = E.length from by simp]
  refine own_shut (by simp) hb hg (by omega) h2 h3 ?_
  have h4 := congrArg (List.take (E.length * 1)) ht
  rw [List.take_take, Nat.min_eq_left (by omega)] at h4
  rw [h4]
  simp
theorem For.mx_le {l : List Tw} (_h : RightP l) {k : Nat} (hk : k ≤ l.length) : mxd l 0 k ≤ l.length := (mxd_le l 0 k _).2 fun i _ hi => by
  have h1 : dep l 0 i ≤ (List.range' 0 (i + 1 - 0)).length := List.length_filter_le _ _
  simp at h1
  omega
set_option maxRecDepth 100000 in
set_option maxHeartbeats 2000000 in
theorem tHeight_any {l : List Tw} (v : Value) (w : World) (h : TwRow w v l) :
    Calls Try.prog 13 #[v] w fun en w' => en = .returned (.int .i64 (heiR l)) ∧ Below w.heap.size w w' := by
  have HR := Lib.hid (right_any v l w h.at' h.ok h.len)
  have H := Lib.hid h
  obtain ⟨ao, cap, rfl⟩ := h.at'.val
  obtain ⟨len, hlen⟩ : ∃ len, len = l.length := ⟨_, rfl⟩
  rw [← hlen] at HR H ⊢
  have HLe := Lib.hid hlen
  clear h hlen
  cases hr : rightB l
  · have HN := Lib.hid (show heiR l = 0 from by unfold heiR; rw [hr]; rfl)
    rw [hr] at HR
    clear hr
    go_enter Try.func13, Try.ntmps13
    go_wp2_with fail
    refine HR.out.mono ?_
    rintro en w1 ⟨rfl, hb⟩
    go_wp2
    go_ret
    exact ⟨ret_int' (by rw [HN.out]; rfl), hb⟩
  · have HP := Lib.hid ((rightB_iff l).1 hr)
    have HN := Lib.hid (show heiR l = mxd l 0 l.length from by unfold heiR; rw [hr]; rfl)
    have hl := H.out.len
    rw [← HLe.out] at hl
    rw [hr] at HR
    obtain ⟨i0, hi0, hz0, hz1, hz2⟩ := info_parts Try.infoInt
    clear hr
    go_enter Try.func13, Try.ntmps13
    go_wp2_with fail
    refine HR.out.mono ?_
    rintro en w1 ⟨rfl, hb⟩
    have HB := Lib.hid hb
    clear hb
    go_wp2
    go_loopw [2, 3, 10] (fun a v i wr => ∃ k : Nat, k ≤ len ∧ i = .int .i64 k ∧ a = .int .i64 (mxd l 0 k) ∧ OwnN w.heap.size wr v (endsL l k).reverse ∧ Below w.heap.size w wr) (fun _ _ i _ => len - (intOf i).toNat)
    case atStart => exact ⟨0, Nat.zero_le _, rfl, rfl, World.ownsRow_nil _ _ _ _, HB.out⟩
    case round =>
      obtain ⟨k, hk, rfl, rfl, hown, hbel⟩ := hrel
      obtain ⟨wo, hwo⟩ : ∃ wo : World, wo = wr := ⟨_, rfl⟩
      subst hwo
      obtain ⟨hi, hhi⟩ : ∃ hi, hi = mxd l 0 k := ⟨_, rfl⟩
      have hhl : hi ≤ 1000000 := by have := For.mx_le HP.out (k := k) (by rw [← HLe.out]; exact hk); have := HLe.out; omega
      rw [← hhi]
      have HHi := Lib.hid hhi
      clear hhi
      by_cases hlt : k < len
      · have hlt2 : (k : Int) < len := by omega
        obtain ⟨m, ks, hs⟩ := HP.out.sub (n := k) (by rw [← HLe.out]; exact hlt)
        have HS := Lib.hid hs
        have HAn := Lib.hid hs.aN
        have hm := hs.lt
        rw [← HLe.out] at hm
        obtain ⟨hm1, hm2⟩ := hm
        have HPop := Lib.hid (ends_pop HP.out (n := k) (by rw [← HLe.out]; exact hk))
        have HOwn := Lib.hid hown
        have HBel := Lib.hid hbel
        have hEl : (endsL l k).length ≤ k := by
          unfold endsL
          rw [List.length_map]
          refine Nat.le_trans (List.length_filter_le _ _) (by simp)
        have HEl := Lib.hid hEl
        clear hs hown hbel hEl
        go_wp2
        go_loop [3] (fun v => ∃ E : List Nat, OwnN w.heap.size wo v E.reverse ∧ Hid (E.dropWhile (fun x => decide (x ≤ k)) = popE l k) ∧ E.length ≤ k) (fun v => lenOf v)
        case atStart => exact ⟨endsL l k, HOwn.out, HPop, HEl.out⟩
        case round =>
          obtain ⟨E, hE, HD, hEk⟩ := hrel
          rcases (show (∃ x E', E = x :: E' ∧ x ≤ k) ∨ (E = popE l k ∧ E = []) ∨ (E = popE l k ∧ ∃ x E', E = x :: E' ∧ k < x) from by
            have hD := HD.out
            cases E with
            | nil => right; left; exact ⟨hD, rfl⟩
            | cons x E =>
              by_cases hx : x ≤ k
              · left; exact ⟨x, E, rfl, hx⟩
              · right; right
                rw [List.dropWhile_cons, if_neg (by simpa using hx)] at hD
                exact ⟨hD, x, E, rfl, by omega⟩) with ⟨x, E', rfl, hx⟩ | ⟨hpE, rfl⟩ | ⟨hpE, x, E', rfl, hx⟩
          · obtain ⟨g, cap3, rfl, hc1, hc2, c0⟩ := own_last hE
            obtain ⟨n1, hn1⟩ : ∃ n1, n1 = E'.length + 1 := ⟨_, rfl⟩
            obtain ⟨m1, hm1⟩ : ∃ m1, m1 = E'.length := ⟨_, rfl⟩
            rw [← hn1] at hc1 hE ⊢
            rw [← hm1] at c0
            have hE2 := own_butlast hE hn1
            rw [← hm1] at hE2
            have hw1 : IntKind.i64.wrap ((n1 : Int) - 1) = (m1 : Int) := (IntWalk.i64_in _ (by unfold maxLen at hc2; omega)).trans (by omega)
            have hmn2 : (m1 : Int) < n1 := by omega
            have hmn3 : 0 < n1 := by omega
            have hm0 : (0 : Int) ≤ m1 := by omega
            have hx2 : (x : Int) ≤ k := by omega
            have HE2 := Lib.hid hE2
            have HN1 := Lib.hid hn1
            have HM1 := Lib.hid hm1
            unfold maxLen at hc2
            clear hE hE2 hn1 hm1
            go_wp2
            go_round
            case rel => exact ⟨E', HE2.out, Lib.hid (by have := HD.out; rwa [List.dropWhile_cons, if_pos (by simpa using hx)] at this), by simp at hEk; omega⟩
            case measure => have := HN1.out; have := HM1.out; simp [lenOf]; omega
          · obtain ⟨ao3, cap3, rfl⟩ := own_val (n := 0) hE
            obtain ⟨nn, hnn⟩ : ∃ nn, nn = 0 := ⟨_, rfl⟩
            have HNn := Lib.hid (show nn = (popE l k).length from by rw [hnn, ← hpE]; rfl)
            have HRow := Lib.hid (show wo.ownsRow w.heap.size 3 1 (.slice ao3 nn cap3) nn (nats (popE l k).reverse) from by rw [hnn, ← hpE]; exact hE)
            have hnk : nn ≤ 1000000 := by omega
            rw [← hnn]
            have hz : ¬ (nn : Int) > 0 := by omega
            clear hE hpE hnn
            have tok := trivial
            have c0 := tok
            have hx2 := tok
            have hw1 := tok
            have hmn2 := tok
            have hm0 := tok
            go_wp2_with fail
            have HA := Lib.hid (after_any _ wo (H.out.later HBel.out).at' HS.out H.out.len)
            refine HA.out.mono ?_
            rintro en w2 ⟨rfl, rfl⟩
            clear HA c0 hw1 hmn2 hm0 hz hx2
            have hrow := HRow.out
            have hsz := HBel.out.size
            go_wp2_with (at_builtin; refine wpList_append_own _ rfl (.tmp 31) (.tmp 35) 25 rfl w.heap.size 3 i0 _ 1 8 Try.underlying25 hi0 hz0 hz1 hz2 rfl (by decide) _ nn _ rfl (hrow.alloc _) ⟨wo.heap.size, 0, none⟩ 1 1 [.int .i64 m] rfl rfl (World.news_of_block (cs := #[.int .i64 m]) (t := 3) (fr := (0, 0)) (heap_alloc_new wo _)) (by simp [Value.oneCell']) (by unfold maxLen; omega) (by omega) (by simp; omega) ?_; intro v' w1 hown' hgrow _; obtain ⟨aov, capv, rfl⟩ := own_val hown')
            have HB1 := Lib.hid (HBel.out.trans (((Below.refl w.heap.size wo).alloc hsz _).grown hgrow (by simp; omega) (fun r hr => (HRow.out.lt r hr).1)))
            have hkm : k < aN l k := by rw [HAn.out]; exact hm1
            have HO1 := Lib.hid (show OwnN w.heap.size w1 (.slice aov (nn + 1) capv) (endsL l (k + 1)).reverse from by
              rw [endsL_succ l hkm, HAn.out]
              unfold OwnN
              rw [show ((m :: popE l k : List Nat).reverse).length = nn + 1 from by simp [HNn.out]]
              rw [List.reverse_cons, nats, List.map_append]
              exact hown')
            have hdep := popE_len l hkm
            rw [List.length_cons, ← HNn.out] at hdep
            have HDep := Lib.hid hdep
            have HMx := Lib.hid (show mxd l 0 (k + 1) = max hi (nn + 1) from by rw [HHi.out, hdep]; simp [mxd])
            clear hown' hgrow hrow hkm hdep
            by_cases hmx : nn + 1 ≤ hi
            · have hmx2 : (nn : Int) + 1 ≤ hi := by omega
              go_wp2
              all_goals exact ⟨⟨k + 1, by omega, by first | omega | go_num, by rw [HMx.out]; first | omega | (rw [show max hi (nn + 1) = nn + 1 from by omega]; go_num) | (rw [show max hi (nn + 1) = hi from by omega]), HO1.out, HB1.out⟩, by simp [intOf]; omega⟩
            · have hmx2 : ¬ (nn : Int) + 1 ≤ hi := by omega
              go_wp2
              all_goals exact ⟨⟨k + 1, by omega, by first | omega | go_num, by rw [HMx.out]; first | omega | (rw [show max hi (nn + 1) = nn + 1 from by omega]; go_num) | (rw [show max hi (nn + 1) = hi from by omega]), HO1.out, HB1.out⟩, by simp [intOf]; omega⟩
          · obtain ⟨g, cap3, rfl, hc1, hc2, c0⟩ := own_last hE
            obtain ⟨nn, hnn⟩ : ∃ nn, nn = E'.length + 1 := ⟨_, rfl⟩
            obtain ⟨m1, hm1e⟩ : ∃ m1, m1 = E'.length := ⟨_, rfl⟩
            have HNn := Lib.hid (show nn = (popE l k).length from by rw [hnn, ← hpE]; rfl)
            have HRow := Lib.hid (show wo.ownsRow w.heap.size 3 1 (.slice (some ⟨g, 0, none⟩) nn cap3) nn (nats (popE l k).reverse) from by
              rw [← hpE, hnn]
              have h9 := hE
              unfold OwnN at h9
              rw [show (x :: E').reverse.length = E'.length + 1 from by simp] at h9
              exact h9)
            have hnk : nn ≤ 1000000 := by simp at hEk; omega
            rw [← hnn] at hc1 ⊢
            rw [← hm1e] at c0
            have hw1 : IntKind.i64.wrap ((nn : Int) - 1) = (m1 : Int) := (IntWalk.i64_in _ (by omega)).trans (by omega)
            have hmn2 : (m1 : Int) < nn := by omega
            have hz : (nn : Int) > 0 := by omega
            have hm0 : (0 : Int) ≤ m1 := by omega
            have hx2 : ¬ (x : Int) ≤ k := by omega
            have hx3 : decide ((x : Int) ≤ k) = false := by simp; omega
            unfold maxLen at hc2
            clear hE hpE hnn hm1e
            go_wp2_with fail
            have HA := Lib.hid (after_any _ wo (H.out.later HBel.out).at' HS.out H.out.len)
            refine HA.out.mono ?_
            rintro en w2 ⟨rfl, rfl⟩
            clear HA c0 hw1 hmn2 hm0 hz hx2
            have hrow := HRow.out
            have hsz := HBel.out.size
            go_wp2_with (at_builtin; refine wpList_append_own _ rfl (.tmp 31) (.tmp 35) 25 rfl w.heap.size 3 i0 _ 1 8 Try.underlying25 hi0 hz0 hz1 hz2 rfl (by decide) _ nn _ rfl (hrow.alloc _) ⟨wo.heap.size, 0, none⟩ 1 1 [.int .i64 m] rfl rfl (World.news_of_block (cs := #[.int .i64 m]) (t := 3) (fr := (0, 0)) (heap_alloc_new wo _)) (by simp [Value.oneCell']) (by unfold maxLen; omega) (by omega) (by simp; omega) ?_; intro v' w1 hown' hgrow _; obtain ⟨aov, capv, rfl⟩ := own_val hown')
            have HB1 := Lib.hid (HBel.out.trans (((Below.refl w.heap.size wo).alloc hsz _).grown hgrow (by simp; omega) (fun r hr => (HRow.out.lt r hr).1)))
            have hkm : k < aN l k := by rw [HAn.out]; exact hm1
            have HO1 := Lib.hid (show OwnN w.heap.size w1 (.slice aov (nn + 1) capv) (endsL l (k + 1)).reverse from by
              rw [endsL_succ l hkm, HAn.out]
              unfold OwnN
              rw [show ((m :: popE l k : List Nat).reverse).length = nn + 1 from by simp [HNn.out]]
              rw [List.reverse_cons, nats, List.map_append]
              exact hown')
            have hdep := popE_len l hkm
            rw [List.length_cons, ← HNn.out] at hdep
            have HDep := Lib.hid hdep
            have HMx := Lib.hid (show mxd l 0 (k + 1) = max hi (nn + 1) from by rw [HHi.out, hdep]; simp [mxd])
            clear hown' hgrow hrow hkm hdep
            by_cases hmx : nn + 1 ≤ hi
            · have hmx2 : (nn : Int) + 1 ≤ hi := by omega
              go_wp2
              all_goals exact ⟨⟨k + 1, by omega, by first | omega | go_num, by rw [HMx.out]; first | omega | (rw [show max hi (nn + 1) = nn + 1 from by omega]; go_num) | (rw [show max hi (nn + 1) = hi from by omega]), HO1.out, HB1.out⟩, by simp [intOf]; omega⟩
            · have hmx2 : ¬ (nn : Int) + 1 ≤ hi := by omega
              go_wp2
              all_goals exact ⟨⟨k + 1, by omega, by first | omega | go_num, by rw [HMx.out]; first | omega | (rw [show max hi (nn + 1) = nn + 1 from by omega]; go_num) | (rw [show max hi (nn + 1) = hi from by omega]), HO1.out, HB1.out⟩, by simp [intOf]; omega⟩
      · have hkn : k = len := by omega
        have hlt2 : ¬ (k : Int) < len := by omega
        have HK := Lib.hid hkn
        clear hkn hown
        go_wp2
        go_ret
        exact ⟨ret_int' (by rw [HN.out, HHi.out, HK.out, HLe.out]), hbel⟩
end Go.Proofs.Ytadkjjpopmiceaa
