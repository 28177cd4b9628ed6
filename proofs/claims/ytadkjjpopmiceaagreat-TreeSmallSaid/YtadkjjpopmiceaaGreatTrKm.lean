import Derived.Test.YtadkjjpopmiceaaGreatTrCm
import Derived.Test.YtadkjjpopmiceaaGreatTrIm
namespace Go.Proofs.YtadkjjpopmiceaaGreat

/-- the ends of those that had not ended at n, the last one first. -/
def endsL (l : List Tw) (n : Nat) : List Nat := ((List.range n).reverse.filter fun p => decide (n ≤ aN l p)).map (aN l)
def popE (l : List Tw) (n : Nat) : List Nat := ((List.range n).reverse.filter fun p => decide (n < aN l p)).map (aN l)
theorem endsL_succ (l : List Tw) {n : Nat} (h : n < aN l n) : endsL l (n + 1) = aN l n :: popE l n := by
  unfold endsL popE
  rw [List.range_succ, List.reverse_append, List.reverse_singleton, List.singleton_append, List.filter_cons]
  rw [if_pos (by simp; omega)]
  simp only [List.map_cons]
  congr 1
theorem popE_len (l : List Tw) {n : Nat} (h : n < aN l n) : (aN l n :: popE l n).length = dep l 0 n := by
  unfold popE dep
  rw [show n + 1 - 0 = n + 1 from rfl, ← List.range_eq_range', List.range_succ, List.filter_append, List.length_append]
  simp [List.filter_reverse, h]
theorem nest {l : List Tw} (h : RightP l) {p q : Nat} (h1 : p < q) (h2 : q < aN l p) (hp : p < l.length) : aN l q ≤ aN l p := by
  obtain ⟨m, ks, hs⟩ : ∃ m ks, Sub l p m ks := by
    obtain ⟨rs, h⟩ := h
    obtain ⟨m, ks, hs, -⟩ := h.sub p (Nat.zero_le _) hp
    exact ⟨m, ks, hs⟩
  rw [hs.aN] at h2 ⊢
  exact (hs.2.2.2.aN_le (p := q) (by omega) h2).1
theorem ends_pop {l : List Tw} (h : RightP l) {n : Nat} (hn : n ≤ l.length) : (endsL l n).dropWhile (fun x => decide (x ≤ n)) = popE l n := by
  unfold endsL popE
  have hL : ∀ (L : List Nat), L.Pairwise (fun a b => b < a) → (∀ p ∈ L, p < n) → ((L.filter fun p => decide (n ≤ aN l p)).map (aN l)).dropWhile (fun x => decide (x ≤ n)) = (L.filter fun p => decide (n < aN l p)).map (aN l) := fun L => by
    induction L with
    | nil => intro _ _; rfl
    | cons p L ih =>
      intro hp hm
      rw [List.pairwise_cons] at hp
      have hpn := hm p (by simp)
      rw [List.filter_cons, List.filter_cons]
      by_cases h1 : n ≤ aN l p
      · rw [if_pos (by simpa using h1)]
        by_cases h2 : n < aN l p
        · rw [if_pos (by simpa using h2), List.map_cons, List.map_cons, List.dropWhile_cons, if_neg (by simpa using h2)]
          congr 2
          apply List.filter_congr
          intro q hq
          have h3 := hp.1 q hq
          have h4 := hm q (by simp [hq])
          by_cases h5 : n ≤ aN l q
          · have := nest h h3 (by omega) (by omega)
            simp
            omega
          · simp
            omega
        · rw [if_neg (by simpa using h2), List.map_cons, List.dropWhile_cons, if_pos (by simpa using h2)]
          exact ih hp.2 (fun q hq => hm q (by simp [hq]))
      · rw [if_neg (by simpa using h1), if_neg (by simp; omega)]
        exact ih hp.2 (fun q hq => hm q (by simp [hq]))
  refine hL _ ?_ (fun p hp => by simpa using hp)
  rw [List.pairwise_reverse]
  exact List.pairwise_lt_range
end Go.Proofs.YtadkjjpopmiceaaGreat
namespace Go.Proofs.YtadkjjpopmiceaaGreat
open Go.RowKit Go.Lib

theorem own_last {B : Nat} {w : World} {v : Value} {x : Nat} {E : List Nat} (h : OwnN B w v (x :: E).reverse) : ∃ g cap, v = .slice (some ⟨g, 0, none⟩) (E.length + 1) cap ∧ E.length + 1 ≤ cap ∧ cap ≤ maxLen ∧ w.cell? ⟨g, E.length, none⟩ = some (.int .i64 x) := by
  unfold OwnN at h
  rw [show (x :: E).reverse.length = E.length + 1 from by simp] at h
  obtain ⟨g, cap, rfl⟩ := own_shape h (by omega)
  obtain ⟨h0, hb, cur, hg, h1, h2, h3, ht⟩ := own_open h
  refine ⟨g, cap, rfl, h1, h2, ?_⟩
  rw [(block_cell' hg _).1]
  have h4 : (cur.toList.take ((E.length + 1) * 1))[E.length]? = some (.int .i64 x) := by rw [ht]; simp
  rw [List.getElem?_take_of_lt (by omega)] at h4
  simpa using h4
theorem own_butlast {B : Nat} {w : World} {g n cap x : Nat} {E : List Nat} (h : OwnN B w (.slice (some ⟨g, 0, none⟩) n cap) (x :: E).reverse) (hn : n = E.length + 1) : OwnN B w (.slice (some ⟨g, 0, none⟩) E.length cap) E.reverse := by
  unfold OwnN at h ⊢
  rw [show (x :: E).reverse.length = n from by simp [hn]] at h
  obtain ⟨h0, hb, cur, hg, h1, h2, h3, ht⟩ := own_open h
  rw [show E.reverse.length = E.length from by simp]
  refine own_shut (by simp) hb hg (by omega) h2 h3 ?_
  have h4 := congrArg (List.take (E.length * 1)) ht
  rw [List.take_take, Nat.min_eq_left (by omega)] at h4
  rw [h4]
  simp
theorem For.mx_le {l : List Tw} (h : RightP l) {k : Nat} (hk : k ≤ l.length) : mxd l 0 k ≤ l.length := (mxd_le l 0 k _).2 fun i _ hi => by
  have h1 : dep l 0 i ≤ (List.range' 0 (i + 1 - 0)).length := List.length_filter_le _ _
  simp at h1
  omega
set_option maxRecDepth 100000 in
set_option maxHeartbeats 2000000 in
theorem tHeight_any {l : List Tw} (v : Value) (w : World) (h : TwRow w v l) :
    Calls Tryz.prog 9 #[v] w fun en w' => en = .returned (.int .i64 (heiR l)) ∧ Below w.heap.size w w' := by
  have HR := Lib.hid (right_any v l w h.at' h.ok h.len)
  have H := Lib.hid h
  obtain ⟨ao, cap, rfl⟩ := h.at'.val
  obtain ⟨len, hlen⟩ : ∃ len, len = l.length := ⟨_, rfl⟩
  rw [← hlen] at HR H ⊢
  have HLe := Lib.hid hlen
  clear h hlen
  cases hr : rightB l
  · have HN := Lib.hid (show heiR l = 0 from by unfold heiR; rw [hr]; rfl)
    rw [hr] at HR
    clear hr
    go_enter Tryz.func9, Tryz.ntmps9
    go_wp2_with fail
    refine HR.out.mono ?_
    rintro en w1 ⟨rfl, hb⟩
    go_wp2
    go_ret
    exact ⟨ret_int' (by rw [HN.out]; rfl), hb⟩
  · have HP := Lib.hid ((rightB_iff l).1 hr)
    have HN := Lib.hid (show heiR l = mxd l 0 l.length from by unfold heiR; rw [hr]; rfl)
    have hl := H.out.len
    rw [← HLe.out] at hl
    rw [hr] at HR
    obtain ⟨i0, hi0, hz0, hz1, hz2⟩ := info_parts Tryz.infoInt
    clear hr
    go_enter Tryz.func9, Tryz.ntmps9
    go_wp2_with fail
    refine HR.out.mono ?_
    rintro en w1 ⟨rfl, hb⟩
    have HB := Lib.hid hb
    clear hb
    go_wp2
    go_loopw [2, 3, 10] (fun a v i wr => ∃ k : Nat, k ≤ len ∧ i = .int .i64 k ∧ a = .int .i64 (mxd l 0 k) ∧ OwnN w.heap.size wr v (endsL l k).reverse ∧ Below w.heap.size w wr) (fun _ _ i _ => len - (intOf i).toNat)
    case atStart => exact ⟨0, Nat.zero_le _, rfl, rfl, World.ownsRow_nil _ _ _ _, HB.out⟩
    case round =>
      obtain ⟨k, hk, rfl, rfl, hown, hbel⟩ := hrel
      obtain ⟨wo, hwo⟩ : ∃ wo : World, wo = wr := ⟨_, rfl⟩
      subst hwo
      obtain ⟨hi, hhi⟩ : ∃ hi, hi = mxd l 0 k := ⟨_, rfl⟩
      have hhl : hi ≤ 1000000 := by have := For.mx_le HP.out (k := k) (by rw [← HLe.out]; exact hk); have := HLe.out; omega
      rw [← hhi]
      have HHi := Lib.hid hhi
      clear hhi
      by_cases hlt : k < len
      · have hlt2 : (k : Int) < len := by omega
        obtain ⟨m, ks, hs⟩ := HP.out.sub (n := k) (by rw [← HLe.out]; exact hlt)
        have HS := Lib.hid hs
        have HAn := Lib.hid hs.aN
        have hm := hs.lt
        rw [← HLe.out] at hm
        obtain ⟨hm1, hm2⟩ := hm
        have HPop := Lib.hid (ends_pop HP.out (n := k) (by rw [← HLe.out]; exact hk))
        have HOwn := Lib.hid hown
        have HBel := Lib.hid hbel
        have hEl : (endsL l k).length ≤ k := by
          unfold endsL
          rw [List.length_map]
          refine Nat.le_trans (List.length_filter_le _ _) (by simp)
        have HEl := Lib.hid hEl
        clear hs hown hbel hEl
        go_wp2
        go_loop [3] (fun v => ∃ E : List Nat, OwnN w.heap.size wo v E.reverse ∧ Hid (E.dropWhile (fun x => decide (x ≤ k)) = popE l k) ∧ E.length ≤ k) (fun v => lenOf v)
        case atStart => exact ⟨endsL l k, HOwn.out, HPop, HEl.out⟩
        case round =>
          obtain ⟨E, hE, HD, hEk⟩ := hrel
          rcases (show (∃ x E', E = x :: E' ∧ x ≤ k) ∨ (E = popE l k ∧ E = []) ∨ (E = popE l k ∧ ∃ x E', E = x :: E' ∧ k < x) from by
            have hD := HD.out
            cases E with
            | nil => right; left; exact ⟨hD, rfl⟩
            | cons x E =>
              by_cases hx : x ≤ k
              · left; exact ⟨x, E, rfl, hx⟩
              · right; right
                rw [List.dropWhile_cons, if_neg (by simpa using hx)] at hD
                exact ⟨hD, x, E, rfl, by omega⟩) with ⟨x, E', rfl, hx⟩ | ⟨hpE, rfl⟩ | ⟨hpE, x, E', rfl, hx⟩
          · obtain ⟨g, cap3, rfl, hc1, hc2, c0⟩ := own_last hE
            obtain ⟨n1, hn1⟩ : ∃ n1, n1 = E'.length + 1 := ⟨_, rfl⟩
            obtain ⟨m1, hm1⟩ : ∃ m1, m1 = E'.length := ⟨_, rfl⟩
            rw [← hn1] at hc1 hE ⊢
            rw [← hm1] at c0
            have hE2 := own_butlast hE hn1
            rw [← hm1] at hE2
            have hw1 : IntKind.i64.wrap ((n1 : Int) - 1) = (m1 : Int) := (IntWalk.i64_in _ (by unfold maxLen at hc2; omega)).trans (by omega)
            have hmn2 : (m1 : Int) < n1 := by omega
            have hmn3 : 0 < n1 := by omega
            have hm0 : (0 : Int) ≤ m1 := by omega
            have hx2 : (x : Int) ≤ k := by omega
            have HE2 := Lib.hid hE2
            have HN1 := Lib.hid hn1
            have HM1 := Lib.hid hm1
            unfold maxLen at hc2
            clear hE hE2 hn1 hm1
            go_wp2
            go_round
            case rel => exact ⟨E', HE2.out, Lib.hid (by have := HD.out; rwa [List.dropWhile_cons, if_pos (by simpa using hx)] at this), by simp at hEk; omega⟩
            case measure => have := HN1.out; have := HM1.out; simp [lenOf]; omega
          · obtain ⟨ao3, cap3, rfl⟩ := own_val (n := 0) hE
            obtain ⟨nn, hnn⟩ : ∃ nn, nn = 0 := ⟨_, rfl⟩
            have HNn := Lib.hid (show nn = (popE l k).length from by rw [hnn, ← hpE]; rfl)
            have HRow := Lib.hid (show wo.ownsRow w.heap.size 3 1 (.slice ao3 nn cap3) nn (nats (popE l k).reverse) from by rw [hnn, ← hpE]; exact hE)
            have hnk : nn ≤ 1000000 := by omega
            rw [← hnn]
            have hz : ¬ (nn : Int) > 0 := by omega
            clear hE hpE hnn
            have tok := trivial
            have c0 := tok
            have hx2 := tok
            have hw1 := tok
            have hmn2 := tok
            have hm0 := tok
            go_wp2_with fail
            have HA := Lib.hid (after_any _ wo (H.out.later HBel.out).at' HS.out H.out.len)
            refine HA.out.mono ?_
            rintro en w2 ⟨rfl, rfl⟩
            clear HA c0 hw1 hmn2 hm0 hz hx2
            have hrow := HRow.out
            have hsz := HBel.out.size
            go_wp2_with (at_builtin; refine wpList_append_own _ rfl (.tmp 31) (.tmp 35) 27 rfl w.heap.size 3 i0 _ 1 8 Tryz.underlying27 hi0 hz0 hz1 hz2 rfl (by decide) _ nn _ rfl (hrow.alloc _) ⟨wo.heap.size, 0, none⟩ 1 1 [.int .i64 m] rfl rfl (World.news_of_block (cs := #[.int .i64 m]) (t := 3) (fr := (0, 0)) (heap_alloc_new wo _)) (by simp [Value.oneCell']) (by unfold maxLen; omega) (by omega) (by simp; omega) ?_; intro v' w1 hown' hgrow _; obtain ⟨aov, capv, rfl⟩ := own_val hown')
            have HB1 := Lib.hid (HBel.out.trans (((Below.refl w.heap.size wo).alloc hsz _).grown hgrow (by simp; omega) (fun r hr => (HRow.out.lt r hr).1)))
            have hkm : k < aN l k := by rw [HAn.out]; exact hm1
            have HO1 := Lib.hid (show OwnN w.heap.size w1 (.slice aov (nn + 1) capv) (endsL l (k + 1)).reverse from by
              rw [endsL_succ l hkm, HAn.out]
              unfold OwnN
              rw [show ((m :: popE l k : List Nat).reverse).length = nn + 1 from by simp [HNn.out]]
              rw [List.reverse_cons, nats, List.map_append]
              exact hown')
            have hdep := popE_len l hkm
            rw [List.length_cons, ← HNn.out] at hdep
            have HDep := Lib.hid hdep
            have HMx := Lib.hid (show mxd l 0 (k + 1) = max hi (nn + 1) from by rw [HHi.out, hdep]; simp [mxd])
            clear hown' hgrow hrow hkm hdep
            by_cases hmx : nn + 1 ≤ hi
            · have hmx2 : (nn : Int) + 1 ≤ hi := by omega
              go_wp2
              all_goals exact ⟨⟨k + 1, by omega, by first | omega | go_num, by rw [HMx.out]; first | omega | (rw [show max hi (nn + 1) = nn + 1 from by omega]; go_num) | (rw [show max hi (nn + 1) = hi from by omega]), HO1.out, HB1.out⟩, by simp [intOf]; omega⟩
            · have hmx2 : ¬ (nn : Int) + 1 ≤ hi := by omega
              go_wp2
              all_goals exact ⟨⟨k + 1, by omega, by first | omega | go_num, by rw [HMx.out]; first | omega | (rw [show max hi (nn + 1) = nn + 1 from by omega]; go_num) | (rw [show max hi (nn + 1) = hi from by omega]), HO1.out, HB1.out⟩, by simp [intOf]; omega⟩
          · obtain ⟨g, cap3, rfl, hc1, hc2, c0⟩ := own_last hE
            obtain ⟨nn, hnn⟩ : ∃ nn, nn = E'.length + 1 := ⟨_, rfl⟩
            obtain ⟨m1, hm1e⟩ : ∃ m1, m1 = E'.length := ⟨_, rfl⟩
            have HNn := Lib.hid (show nn = (popE l k).length from by rw [hnn, ← hpE]; rfl)
            have HRow := Lib.hid (show wo.ownsRow w.heap.size 3 1 (.slice (some ⟨g, 0, none⟩) nn cap3) nn (nats (popE l k).reverse) from by
              rw [← hpE, hnn]
              have h9 := hE
              unfold OwnN at h9
              rw [show (x :: E').reverse.length = E'.length + 1 from by simp] at h9
              exact h9)
            have hnk : nn ≤ 1000000 := by simp at hEk; omega
            rw [← hnn] at hc1 ⊢
            rw [← hm1e] at c0
            have hw1 : IntKind.i64.wrap ((nn : Int) - 1) = (m1 : Int) := (IntWalk.i64_in _ (by omega)).trans (by omega)
            have hmn2 : (m1 : Int) < nn := by omega
            have hz : (nn : Int) > 0 := by omega
            have hm0 : (0 : Int) ≤ m1 := by omega
            have hx2 : ¬ (x : Int) ≤ k := by omega
            have hx3 : decide ((x : Int) ≤ k) = false := by simp; omega
            unfold maxLen at hc2
            clear hE hpE hnn hm1e
            go_wp2_with fail
            have HA := Lib.hid (after_any _ wo (H.out.later HBel.out).at' HS.out H.out.len)
            refine HA.out.mono ?_
            rintro en w2 ⟨rfl, rfl⟩
            clear HA c0 hw1 hmn2 hm0 hz hx2
            have hrow := HRow.out
            have hsz := HBel.out.size
            go_wp2_with (at_builtin; refine wpList_append_own _ rfl (.tmp 31) (.tmp 35) 27 rfl w.heap.size 3 i0 _ 1 8 Tryz.underlying27 hi0 hz0 hz1 hz2 rfl (by decide) _ nn _ rfl (hrow.alloc _) ⟨wo.heap.size, 0, none⟩ 1 1 [.int .i64 m] rfl rfl (World.news_of_block (cs := #[.int .i64 m]) (t := 3) (fr := (0, 0)) (heap_alloc_new wo _)) (by simp [Value.oneCell']) (by unfold maxLen; omega) (by omega) (by simp; omega) ?_; intro v' w1 hown' hgrow _; obtain ⟨aov, capv, rfl⟩ := own_val hown')
            have HB1 := Lib.hid (HBel.out.trans (((Below.refl w.heap.size wo).alloc hsz _).grown hgrow (by simp; omega) (fun r hr => (HRow.out.lt r hr).1)))
            have hkm : k < aN l k := by rw [HAn.out]; exact hm1
            have HO1 := Lib.hid (show OwnN w.heap.size w1 (.slice aov (nn + 1) capv) (endsL l (k + 1)).reverse from by
              rw [endsL_succ l hkm, HAn.out]
              unfold OwnN
              rw [show ((m :: popE l k : List Nat).reverse).length = nn + 1 from by simp [HNn.out]]
              rw [List.reverse_cons, nats, List.map_append]
              exact hown')
            have hdep := popE_len l hkm
            rw [List.length_cons, ← HNn.out] at hdep
            have HDep := Lib.hid hdep
            have HMx := Lib.hid (show mxd l 0 (k + 1) = max hi (nn + 1) from by rw [HHi.out, hdep]; simp [mxd])
            clear hown' hgrow hrow hkm hdep
            by_cases hmx : nn + 1 ≤ hi
            · have hmx2 : (nn : Int) + 1 ≤ hi := by omega
              go_wp2
              all_goals exact ⟨⟨k + 1, by omega, by first | omega | go_num, by rw [HMx.out]; first | omega | (rw [show max hi (nn + 1) = nn + 1 from by omega]; go_num) | (rw [show max hi (nn + 1) = hi from by omega]), HO1.out, HB1.out⟩, by simp [intOf]; omega⟩
            · have hmx2 : ¬ (nn : Int) + 1 ≤ hi := by omega
              go_wp2
              all_goals exact ⟨⟨k + 1, by omega, by first | omega | go_num, by rw [HMx.out]; first | omega | (rw [show max hi (nn + 1) = nn + 1 from by omega]; go_num) | (rw [show max hi (nn + 1) = hi from by omega]), HO1.out, HB1.out⟩, by simp [intOf]; omega⟩
      · have hkn : k = len := by omega
        have hlt2 : ¬ (k : Int) < len := by omega
        have HK := Lib.hid hkn
        clear hkn hown
        go_wp2
        go_ret
        exact ⟨ret_int' (by rw [HN.out, HHi.out, HK.out, HLe.out]), hbel⟩
end Go.Proofs.YtadkjjpopmiceaaGreat
namespace Go.Proofs.YtadkjjpopmiceaaGreat
open Go.RowKit Go.Lib

set_option maxRecDepth 100000 in
set_option maxHeartbeats 1000000 in
theorem pathOn_any {l : List Tw} {v : Value} {bl bp : Nat} {pl : Int} {T1 T2 : TypeId} (x : Nat) (w : World) (h : TwRow w v l) (hx : x < l.length) (hbl : w.heap[bl]? = some (.cells #[v] T1 (0, 0))) (hbp : w.heap[bp]? = some (.cells #[.int .i64 pl] T2 (0, 0))) :
    Calls Tryz.prog 53 #[.int .i64 x, .pointer (some ⟨bl, 0, none⟩), .pointer (some ⟨bp, 0, none⟩)] w fun en w' => en = .returned (.bool (shB (atT l x).fr (atT l x).to pl)) ∧ Below w.heap.size w w' := by
  obtain ⟨ao, cap, rfl⟩ := h.at'.val
  obtain ⟨b, off, rfl, hbw, -, -, e2, e3, -⟩ := h.at'.cells.2.2.2.2 x hx
  rw [← atT_get l hx] at e2 e3
  have cB := (block_cell' hbl 0).1
  have cP := (block_cell' hbp 0).1
  obtain ⟨n, hn⟩ : ∃ n, n = l.length := ⟨_, rfl⟩
  obtain ⟨a, ha⟩ : ∃ a, a = (atT l x).fr := ⟨_, rfl⟩
  obtain ⟨c, hc⟩ : ∃ c, c = (atT l x).to := ⟨_, rfl⟩
  rw [← hn] at cB
  rw [← ha, ← hc]
  rw [← ha] at e2
  rw [← hc] at e3
  have hx2 : (x : Int) < n := by omega
  have hx0 : (0 : Int) ≤ x := by omega
  have HH := Lib.hid (show ∀ u2, Below w.heap.size w u2 → Calls Tryz.prog 54 #[.agg #[.int .i64 a, .int .i64 c], .int .i64 pl] u2 fun e w' => e = .returned (.bool (shB a c pl)) ∧ Below w.heap.size w w' from fun u2 hu2 => (sHas_any a c pl u2).mono fun e w' hh => ⟨hh.1, hu2.trans (hh.2.mono hu2.size)⟩)
  clear h hx hbl hbp hn ha hc
  go_enter Tryz.func53, Tryz.ntmps53
  go_upto_region 1 with (fail)
  refine wp_region_held_drew (S := fun u2 => Below w.heap.size w u2) (by kernel_rfl) ((Below.refl _ _).drew) (fun hS => ?_)
  refine wpAnyH_take (i := 0) (oi := ⟨_, _, _, _, _, _⟩) (v := ?v1) rfl (by kernel_rfl) (by kernel_rfl) (by kernel_rfl) (fun _ _ _ h => h) ?y1 hS ?_
  case y1 => first | (refine Or.inr ⟨by rfl, ?_⟩; with_reducible rfl) | (refine Or.inl ⟨by rfl, ?_⟩; intro wS hSw; have s0 := cell_later hSw cB; have s1 := cell_later hSw cP; have s2 := cell_later hSw e2; have s3 := cell_later hSw e3; go_simp; try with_reducible rfl)
  simp only [Act.put, List.setIfInBounds_toArray, List.set_cons_zero, List.set_cons_succ]
  refine wpAnyH_take (i := 1) (oi := ⟨_, _, _, _, _, _⟩) (v := ?v2) rfl (by kernel_rfl) (by kernel_rfl) (by kernel_rfl) (fun _ _ _ h => h) ?y2 hS ?_
  case y2 => first | (refine Or.inr ⟨by rfl, ?_⟩; with_reducible rfl) | (refine Or.inl ⟨by rfl, ?_⟩; intro wS hSw; have s0 := cell_later hSw cB; have s1 := cell_later hSw cP; have s2 := cell_later hSw e2; have s3 := cell_later hSw e3; go_simp; try with_reducible rfl)
  simp only [Act.put, List.setIfInBounds_toArray, List.set_cons_zero, List.set_cons_succ]
  refine wpAnyH_take (i := 2) (oi := ⟨_, _, _, _, _, _⟩) (v := ?v3) rfl (by kernel_rfl) (by kernel_rfl) (by kernel_rfl) (fun _ _ _ h => h) ?y3 hS ?_
  case y3 => first | (refine Or.inr ⟨by rfl, ?_⟩; with_reducible rfl) | (refine Or.inl ⟨by rfl, ?_⟩; intro wS hSw; have s0 := cell_later hSw cB; have s1 := cell_later hSw cP; have s2 := cell_later hSw e2; have s3 := cell_later hSw e3; go_simp; try with_reducible rfl)
  simp only [Act.put, List.setIfInBounds_toArray, List.set_cons_zero, List.set_cons_succ]
  refine wpAnyH_take (i := 3) (oi := ⟨_, _, _, _, _, _⟩) (v := ?v4) rfl (by kernel_rfl) (by kernel_rfl) (by kernel_rfl) (fun _ _ _ h => h) ?y4 hS ?_
  case y4 => first | (refine Or.inr ⟨by rfl, ?_⟩; with_reducible rfl) | (refine Or.inl ⟨by rfl, ?_⟩; intro wS hSw; have s0 := cell_later hSw cB; have s1 := cell_later hSw cP; have s2 := cell_later hSw e2; have s3 := cell_later hSw e3; go_simp; try with_reducible rfl)
  simp only [Act.put, List.setIfInBounds_toArray, List.set_cons_zero, List.set_cons_succ]
  refine wpAnyH_take (i := 4) (oi := ⟨_, _, _, _, _, _⟩) (v := ?v5) rfl (by kernel_rfl) (by kernel_rfl) (by kernel_rfl) (fun _ _ _ h => h) ?y5 hS ?_
  case y5 => first | (refine Or.inr ⟨by rfl, ?_⟩; with_reducible rfl) | (refine Or.inl ⟨by rfl, ?_⟩; intro wS hSw; have s0 := cell_later hSw cB; have s1 := cell_later hSw cP; have s2 := cell_later hSw e2; have s3 := cell_later hSw e3; go_simp; try with_reducible rfl)
  simp only [Act.put, List.setIfInBounds_toArray, List.set_cons_zero, List.set_cons_succ]
  refine wpAnyH_take (i := 5) (oi := ⟨_, _, _, _, _, _⟩) (v := ?v6) rfl (by kernel_rfl) (by kernel_rfl) (by kernel_rfl) (fun _ _ _ h => h) ?y6 hS ?_
  case y6 => first | (refine Or.inr ⟨by rfl, ?_⟩; with_reducible rfl) | (refine Or.inl ⟨by rfl, ?_⟩; intro wS hSw; have s0 := cell_later hSw cB; have s1 := cell_later hSw cP; have s2 := cell_later hSw e2; have s3 := cell_later hSw e3; go_simp; try with_reducible rfl)
  simp only [Act.put, List.setIfInBounds_toArray, List.set_cons_zero, List.set_cons_succ]
  refine wpAnyH_ready (rs := [6]) (by kernel_rfl) (by simp) ?_
  refine AllReadyH.cons (o := ⟨_, _, _, _, _, _⟩) rfl (fun K hK => ?_) AllReadyH.nil
  go_simp
  refine (HH.out _ hS).mono ?_
  rintro e wx ⟨rfl, hS⟩
  go_wp2_with fail
  refine hK.out _ _ hS (fun _ => ?_)
  clear hK K
  try simp only [Act.put, List.setIfInBounds_toArray, List.set_cons_zero, List.set_cons_succ]
  refine wpAnyH_take (i := 7) (oi := ⟨_, _, _, _, _, _⟩) (v := ?v7) rfl (by kernel_rfl) (by kernel_rfl) (by kernel_rfl) (fun _ _ _ h => h) ?y7 hS ?_
  case y7 => first | (refine Or.inr ⟨by rfl, ?_⟩; with_reducible rfl) | (refine Or.inl ⟨by rfl, ?_⟩; intro wS hSw; have s0 := cell_later hSw cB; have s1 := cell_later hSw cP; have s2 := cell_later hSw e2; have s3 := cell_later hSw e3; go_simp; try with_reducible rfl)
  simp only [Act.put, List.setIfInBounds_toArray, List.set_cons_zero, List.set_cons_succ]
  refine wpAnyH_done (by kernel_rfl) ?_ _
  have HS := Lib.hid hS
  clear hS HH
  go_wp2
  go_ret
  exact ⟨rfl, HS.out⟩
/-- the first that answers yes. -/
def IdxN (rs : List Nat) (p : Nat → Bool) (en : Ending) : Prop := ∃ r : Int, en = .returned (.int .i64 r) ∧ ((rs.find? p = none ∧ r = -1) ∨ ∃ (i : Nat) (h : i < rs.length), rs.find? p = some rs[i] ∧ r = i)
theorem find_snoc {p : Nat → Bool} {rs : List Nat} {k : Nat} (hk : k < rs.length) (h : (rs.take k).find? p = none) (hp : p rs[k] = true) : rs.find? p = some rs[k] := by
  conv => lhs; rw [← List.take_append_drop k rs]
  rw [List.find?_append, h, List.drop_eq_getElem_cons hk, List.find?_cons, hp]
  rfl
set_option maxRecDepth 100000 in
set_option maxHeartbeats 1000000 in
theorem idxN_any (B : Nat) (v : Value) (rs : List Nat) (p : Nat → Bool) (cl : Array Value) (w : World) (h : OwnN B w v rs)
    (hc : ∀ x ∈ rs, ∀ u, Below w.heap.size w u → Calls Tryz.prog 53 (#[.int .i64 (x : Int)] ++ cl) u fun e w' => e = .returned (.bool (p x)) ∧ Below u.heap.size u w') (hcl : ∃ a b, cl = #[.pointer a, .pointer b]) :
    Calls Tryz.prog 56 #[v, .func (.func 53) #[] cl] w fun e w' => IdxN rs p e ∧ Below w.heap.size w w' := by
  obtain ⟨ca, cb, rfl⟩ := hcl
  have hcA := own_cells (nats_one rs) (by unfold OwnN at h; exact h)
  obtain ⟨ao, b, off, cap, rfl, hlc, hm, -, hao, hbs, hcc⟩ := hcA
  simp only [List.length_map] at hlc hao hbs hcc ⊢
  unfold maxLen at hm
  obtain ⟨n, hn⟩ : ∃ n, n = rs.length := ⟨_, rfl⟩
  have HN := Lib.hid hn
  have HC := Lib.hid hc
  have HA := Lib.hid hao
  have HB := Lib.hid hbs
  have HCC := Lib.hid hcc
  rw [← hn] at hlc ⊢
  clear h hc hao hbs hcc hn
  go_enter Tryz.func56, Tryz.ntmps56
  go_wp2
  go_loopw [8] (fun i wr => ∃ k : Nat, k ≤ n ∧ i = .int .i64 k ∧ Below w.heap.size w wr ∧ Hid ((rs.take k).find? p = none)) (fun i _ => n - (intOf i).toNat)
  case atStart => exact ⟨0, Nat.zero_le _, rfl, Below.refl _ _, Lib.hid (by simp)⟩
  case round =>
    obtain ⟨k, hk, rfl, hbel, HT⟩ := hrel
    by_cases hlt : k < n
    · have hlt2 : (k : Int) < n := by omega
      have hkE : k < rs.length := by rw [← HN.out]; exact hlt
      have hao := HA.out (by omega)
      subst hao
      have hbw : b < w.heap.size := World.block_lt_of_cell? (a := ⟨b, _, none⟩) _ (HCC.out k hkE)
      have c0 := (hbel.cell (p := ⟨b, off + k, none⟩) hbw).trans (HCC.out k hkE)
      obtain ⟨x, hx⟩ : ∃ x, x = rs[k] := ⟨_, rfl⟩
      simp only [List.getElem_map, ← hx] at c0
      have HX := Lib.hid hx
      have HCx := Lib.hid (HC.out x (by rw [hx]; exact List.getElem_mem _) wr hbel)
      have HBel := Lib.hid hbel
      clear hx hbel
      go_wp2_with fail
      refine HCx.out.mono ?_
      rintro e wd ⟨rfl, hbd⟩
      have HBd := Lib.hid (HBel.out.trans (hbd.mono HBel.out.size))
      clear hbd
      cases hp : p x
      · have HP := Lib.hid hp
        clear hp
        go_wp2
        go_roundw
        case rel => exact ⟨k + 1, by omega, by go_num, HBd.out, Lib.hid (by
          rw [List.take_succ_eq_append_getElem hkE, List.find?_append, HT.out, ← HX.out]
          simp [HP.out])⟩
        case measure => simp [intOf]; omega
      · have HP := Lib.hid hp
        clear hp
        go_wp2
        go_ret
        exact ⟨⟨k, rfl, .inr ⟨k, hkE, find_snoc hkE HT.out (by rw [← HX.out]; exact HP.out), rfl⟩⟩, HBd.out⟩
    · have hlt2 : ¬ (k : Int) < n := by omega
      go_wp2
      go_ret
      refine ⟨⟨-1, rfl, .inl ⟨?_, rfl⟩⟩, hbel⟩
      have := HT.out
      rwa [List.take_of_length_le (by rw [← HN.out]; omega)] at this
end Go.Proofs.YtadkjjpopmiceaaGreat
