/-
  TreeBack: the walk.
-/
import Derived.Test.YtadkjjpopmiceaaTbk
namespace Go.Proofs.Ytadkjjpopmiceaa
open Go.RowKit Go.Lib

/-- how many twigs the first k rows have. -/
def totR (L : List (Value × List Tw)) : Nat → Nat
  | 0 => 0
  | k + 1 => totR L k + ((L[k]?).map fun p => p.2.length).getD 0
theorem totR_succ {L : List (Value × List Tw)} {k : Nat} (h : k < L.length) : totR L (k + 1) = totR L k + (L[k]).2.length := by
  simp [totR, h]
theorem totR_le (L : List (Value × List Tw)) {k : Nat} : ∀ d, totR L k ≤ totR L (k + d)
  | 0 => Nat.le_refl _
  | d + 1 => by
    have := totR_le L (k := k) d
    rw [← Nat.add_assoc, totR]
    omega
theorem own_some' {B : Nat} {w : World} {a : Option Addr} {n p : Nat} {l : List Value} (h : w.ownsRow B 32 5 (.slice a n p) n l) (hn : 0 < n) : ∃ g, a = some ⟨g, 0, none⟩ := by
  obtain ⟨g', cap', cur, h1, -⟩ := h.2.resolve_left (fun h => by omega)
  simp only [Value.slice.injEq] at h1
  exact ⟨g', h1.1⟩
/-- where the last root stands, and ends. -/
theorem end_at {l : List Tw} (h : rightB l = true) (h0 : 0 < l.length) : ∃ (k r : Nat) (hk : k < (topR l).length), (topR l).length = k + 1 ∧ (topR l)[k] = r ∧ r < l.length ∧ endTo l = (atT l r).to := by
  obtain ⟨rs, hF⟩ := (rightB_iff l).1 h
  have ht := topR_of h hF
  obtain ⟨m, ks, rs', hrs, -, -⟩ := hF.split h0
  have hlen : 0 < (topR l).length := by rw [ht, hrs]; simp
  refine ⟨(topR l).length - 1, (topR l)[(topR l).length - 1]'(by omega), by omega, by omega, rfl, ?_, ?_⟩
  · have hm : (topR l)[(topR l).length - 1]'(by omega) ∈ rs := by rw [← ht]; exact List.getElem_mem _
    exact (hF.root _ hm).2
  · unfold endTo
    rw [List.getLast?_eq_getElem?, List.getElem?_eq_getElem (by omega)]
set_option maxRecDepth 100000 in
set_option maxHeartbeats 8000000 in
theorem treeBack_main (v0 v1 : Value) (L : List (Value × List Tw)) (S : List (Int × Int)) (mk : Int) (w : World) (h0 : RwsAt w v0 L) (h1 : SpsAt w v1 S) (hL : L.length ≤ 140737488355328) (hS0 : S.length ≤ 140737488355328) :
    Calls Try.prog 4 #[v0, v1, .int .i64 mk] w fun e w' => e = .returned (.bool true) ∧ Below w.heap.size w w' := by
  have HAw := Lib.hid (awake_any w)
  obtain ⟨ao, b1, o1, cap, hv, -⟩ := h0.1
  rw [List.length_map] at hv
  subst hv
  obtain ⟨bo, b2, o2, cbp, hv, -⟩ := h1.1
  rw [List.length_map] at hv
  subst hv
  have hca := h0.cells
  obtain ⟨-, hca1, hca2, -⟩ := hca
  have hcb := h1.cells
  obtain ⟨-, hcb1, hcb2, -⟩ := hcb
  obtain ⟨nr, hnr⟩ : ∃ nr, nr = L.length := ⟨_, rfl⟩
  obtain ⟨ns, hns⟩ : ∃ ns, ns = S.length := ⟨_, rfl⟩
  rw [← hnr] at h0 hL hca1 ⊢
  rw [← hns] at h1 hS0 hcb1 ⊢
  unfold maxLen at hca2 hcb2
  have H0 := Lib.hid h0
  have H1 := Lib.hid h1
  have HNr := Lib.hid hnr
  have HNs := Lib.hid hns
  clear h0 h1 hnr hns
  go_enter Try.func4, Try.ntmps4
  go_wp2_with fail
  refine HAw.out.mono ?_
  rintro e w1 ⟨rfl, hb⟩
  have HB1 := Lib.hid hb
  have HR1 := Lib.hid (H0.out.later hb)
  have HP1 := Lib.hid (H1.out.later hb)
  clear hb HAw
  go_wp2
  go_loopw [7, 8] (fun s i wr => ∃ k : Nat, k ≤ nr ∧ s = .int .i64 ((nr : Int) + ns + totR L k) ∧ i = .int .i64 k ∧ nr + ns + totR L k ≤ 600000000000000 ∧ w1 = wr) (fun _ i _ => nr - (intOf i).toNat)
  case atStart => exact ⟨0, by omega, by simp [totR], rfl, by simp only [totR]; omega, rfl⟩
  case round =>
    obtain ⟨k, hk, rfl, rfl, hle, rfl⟩ := hrel
    obtain ⟨T, hT⟩ : ∃ T, T = totR L k := ⟨_, rfl⟩
    rw [← hT] at hle ⊢
    have HT := Lib.hid hT
    clear hT
    by_cases hlt : k < nr ∧ nr + ns + T ≤ 120
    · obtain ⟨hlt, hs⟩ := hlt
      have hlt' : (k : Int) < nr := by omega
      have hs' : (nr : Int) + ns + T ≤ 120 := by omega
      have hkL : k < L.length := by rw [← HNr.out]; exact hlt
      obtain ⟨b, off, rfl, -, c0⟩ := HR1.out.cells.2.2.2 k hkL
      have hrow := HR1.out.2 _ (List.getElem_mem hkL)
      have htot := totR_succ hkL
      obtain ⟨ra, rc, hv⟩ := hrow.1.val
      have hrl := hrow.2.2
      rw [hv] at c0
      obtain ⟨q, hq⟩ : ∃ q, q = (L[k]).2.length := ⟨_, rfl⟩
      rw [← hq] at c0 htot hrl
      rw [← HT.out] at htot
      have HTo := Lib.hid htot
      clear hrow htot hv hq
      go_wp2_with fail
      go_roundw
      case rel => exact ⟨k + 1, by omega, by rw [HTo.out]; go_num, by go_num, by rw [HTo.out]; omega, trivial⟩
      case measure => simp [intOf]; omega
    · by_cases hs : nr + ns + T ≤ 120
      · have hs' : (nr : Int) + ns + T ≤ 120 := by omega
        have hs2 : ¬ (120 : Int) < nr + ns + T := by omega
        obtain rfl : k = nr := by omega
        have hlt' : ¬ (k : Int) < k := by omega
        by_cases hr30 : k ≤ 30
        · have hr30' : ¬ (30 : Int) < k := by omega
          by_cases hs30 : ns ≤ 30
          · have hs30' : ¬ (30 : Int) < ns := by omega
            clear hlt hle
            go_wp2_with fail
            refine (buNew 240 _ (by omega)).mono ?_
            rintro e w2 ⟨b, x, rfl, hU, hb⟩
            have HS0 := Lib.hid (show BkS w1 w2 b x (.slice none 0 0) [] 0 [] [] from ⟨hU, hb, fun r hr => by simp at hr, fun q hq => by simp at hq⟩)
            clear hU hb
            go_wp2
            go_loopw [10] (fun i wr => ∃ (j : Nat) (vB : Value) (l : List Tw) (pk : Nat), j ≤ k ∧ i = .int .i64 j ∧ BkS w1 wr b x vB l pk [] [] ∧ l.length ≤ totR L j + min j ns) (fun i _ => k - (intOf i).toNat)
            case atStart => exact ⟨0, _, _, _, by omega, rfl, HS0.out, by simp [totR]⟩
            case round =>
              obtain ⟨j, vB, l, pk, hj, rfl, hbk, hll⟩ := hrel
              have HS := Lib.hid hbk
              by_cases hjl : j < k
              · have hjl' : (j : Int) < k := by omega
                have hjL : j < L.length := by rw [← HNr.out]; exact hjl
                have HRw := Lib.hid (HR1.out.later HS.out.bl)
                obtain ⟨rb, roff, rfl, -, c0⟩ := HRw.out.cells.2.2.2 j hjL
                have hrow := HRw.out.2 _ (List.getElem_mem hjL)
                have htot := totR_succ hjL
                have hcap2 : totR L (j + 1) ≤ T := by
                  have := totR_le L (k := j + 1) (k - (j + 1))
                  rw [show j + 1 + (k - (j + 1)) = k from by omega] at this
                  rw [HT.out]
                  exact this
                obtain ⟨ra, rc, hv⟩ := hrow.1.val
                rw [hv] at c0 hrow
                obtain ⟨q, hq⟩ : ∃ q, q = (L[j]).2.length := ⟨_, rfl⟩
                rw [← hq] at c0 htot hrow
                have HRow := Lib.hid (TwRow.mk hrow.1 hrow.2.1 (by omega))
                obtain ⟨d1, l1, hp⟩ : ∃ d1 l1, bPut 240 l (L[j]).2 = (d1, l1) := ⟨_, _, rfl⟩
                have hl1 : l1.length ≤ l.length + q := by have := bPut_len 240 l (L[j]).2; rw [hp, ← hq] at this; exact this
                have hpl : l.length + (L[j]).2.length ≤ 100000 := by rw [← hq]; omega
                have HPt := Lib.hid (bkPut HS.out HRow.out hpl hp)
                clear hrow hv hq hp hpl hbk HRow
                go_wp2_with fail
                refine HPt.out.mono ?_
                rintro e w3 ⟨rfl, v3, pk3, hS3⟩
                have HS3 := Lib.hid hS3
                clear hS3 c0 HPt
                go_upto_if 73 with (fail)
                go_cut [] (fun w4 => ∃ v4 l2 pk4, BkS w1 w4 b x v4 l2 pk4 [] [] ∧ l2.length ≤ totR L (j + 1) + min (j + 1) ns)
                case first =>
                  by_cases hks : j < ns
                  · have hks' : (j : Int) < ns := by omega
                    have HPw := Lib.hid (HP1.out.later HS3.out.bl)
                    have hjS : j < S.length := by rw [← HNs.out]; exact hks
                    obtain ⟨sb, soff, rfl, -, s0, s1⟩ := HPw.out.cells.2.2.2 j hjS
                    have hst := HPw.out.2 _ (List.getElem_mem hjS)
                    obtain ⟨sf, hsf⟩ : ∃ sf, sf = (S[j]).1 := ⟨_, rfl⟩
                    obtain ⟨st, hse⟩ : ∃ st, st = (S[j]).2 := ⟨_, rfl⟩
                    rw [← hsf] at s0
                    rw [← hse] at s1 hst
                    obtain ⟨d2, l2, hp⟩ : ∃ d2 l2, bWrap 240 l1 mk j 0 sf st = (d2, l2) := ⟨_, _, rfl⟩
                    have hl2 : l2.length ≤ l1.length + 1 := by have := bWrap_len 240 l1 mk j 0 sf st HS3.out.bu.right; rw [hp] at this; exact this
                    have HWr := Lib.hid (bkWrap mk j 0 sf st HS3.out (by omega) hst hp)
                    have HL2 := Lib.hid (show l2.length ≤ totR L (j + 1) + min (j + 1) ns from by omega)
                    clear hsf hse hst hp hl1 hl2
                    go_wp2_with fail
                    refine HWr.out.mono ?_
                    rintro e w4 ⟨rfl, v4, pk4, hS4⟩
                    have HS4 := Lib.hid hS4
                    clear hS4 s0 s1 HWr
                    go_wp2
                    go_meet
                    exact ⟨v4, l2, pk4, HS4.out, HL2.out⟩
                  · have hks' : ¬ (j : Int) < ns := by omega
                    have HL2 := Lib.hid (show l1.length ≤ totR L (j + 1) + min (j + 1) ns from by omega)
                    clear hl1
                    go_wp2
                    go_meet
                    exact ⟨v3, l1, pk3, HS3.out, HL2.out⟩
                case rest =>
                  obtain ⟨v4, l2, pk4, hbk4, hl4⟩ := hcut
                  have HS4 := Lib.hid hbk4
                  clear hbk4 hl1
                  have HL4 := Lib.hid hl4
                  have hk2 : l2.length ≤ 120 := by omega
                  go_wp2_with fail
                  refine (bkSince HS4.out).mono ?_
                  rintro e w5 ⟨vr, rfl, hS5⟩
                  obtain ⟨n2, hn2⟩ : ∃ n2, n2 = l2.length := ⟨_, rfl⟩
                  have hq := (hS5.rows _ (.head _)).1
                  unfold TwOwn at hq
                  rw [← hn2] at hk2 hq
                  obtain ⟨la, lc, rfl⟩ := own_val hq
                  have HN2 := Lib.hid hn2
                  have HS5 := Lib.hid hS5
                  clear hS5 hn2 hl4
                  have HMa := Lib.hid (buMark w5 HS5.out.bu)
                  rw [← HN2.out] at HMa
                  clear hq
                  go_wp2_with fail
                  refine HMa.out.mono ?_
                  rintro e w6 ⟨rfl, rfl⟩
                  have HR5 := Lib.hid (right_any _ l2 w5 (HS5.out.row (.head _) HS5.out.bu.ok (by rw [← HN2.out]; omega)).at' HS5.out.bu.ok (by rw [← HN2.out]; omega))
                  rw [HS5.out.bu.right] at HR5
                  go_wp2_with fail
                  refine HR5.out.mono ?_
                  rintro e w6 ⟨rfl, hb⟩
                  have HS6 := Lib.hid (HS5.out.later hb)
                  clear hb HR5 HMa
                  have hk7 := HS6.out.know #[.int .i64 0, .int .i64 9223372036854775807]
                  go_wp2_with fail
                  generalize w6.alloc (.cells #[.int .i64 0, .int .i64 9223372036854775807] 30) = w7 at hk7 ⊢
                  generalize w6.heap.size = Y at hk7 ⊢
                  have HS7 := Lib.hid hk7
                  clear hk7
                  refine (bkWrap 0 1 2 0 9223372036854775807 HS7.out (by rw [← HN2.out]; omega) (Int.le_refl _) (wrap_over HS7.out.bu.right (by rw [← HN2.out]; omega))).mono ?_
                  rintro e w8 ⟨rfl, v8, pk8, hS8⟩
                  have HS8 := Lib.hid hS8
                  clear hS8
                  have HMa := Lib.hid (buMark w8 HS8.out.bu)
                  rw [show (((over (topR l2).length :: l2).length : Nat) : Int) = (n2 : Int) + 1 from by rw [List.length_cons, ← HN2.out]; rfl] at HMa
                  go_wp2_with fail
                  refine HMa.out.mono ?_
                  rintro e w9 ⟨rfl, rfl⟩
                  go_wp2_with fail
                  refine (bkSince HS8.out).mono ?_
                  rintro e w9 ⟨vr, rfl, hS9⟩
                  have hq := (hS9.rows _ (.head _)).1
                  unfold TwOwn at hq
                  rw [List.length_cons, ← HN2.out] at hq
                  obtain ⟨ma, mc, rfl⟩ := own_val hq
                  obtain ⟨g9, rfl⟩ := own_some' hq (by omega)
                  have HS9 := Lib.hid hS9
                  have HO9 := Lib.hid hq
                  have HRl := Lib.hid (show n2 + 1 = l2.length + 1 from by rw [← HN2.out])
                  obtain ⟨tn, htn⟩ : ∃ tn, tn = (topR l2).length := ⟨_, rfl⟩
                  rw [← htn] at HS9 HO9
                  have HTn := Lib.hid htn
                  have HOk2 := Lib.hid HS5.out.bu.ok
                  have HRg := Lib.hid HS5.out.bu.right
                  have hmc := own_cap HO9.out
                  obtain ⟨hmc1, hmc2⟩ := hmc
                  have hl6 : l2.length ≤ 1000000 := by rw [← HN2.out]; omega
                  have hl24 : l2.length ≤ 240 := by rw [← HN2.out]; omega
                  have hl10 : (0 : Nat) + l2.length ≤ 100000 := by rw [← HN2.out]; omega
                  have HSI := Lib.hid (HS9.out.later ((Below.refl _ _).drew))
                  have HRt := Lib.hid (tRoots_any _ _ (HSI.out.row (.tail _ (.head _)) HOk2.out hl6))
                  clear htn hmc2
                  have HAll := Lib.hid (fun u v' l' pk (h : BkS w1 u b x v' l' pk [(.slice (some ⟨g9, 0, none⟩) (n2 + 1) mc, over tn :: l2), (.slice la n2 lc, l2)] [(Y, #[.int .i64 0, .int .i64 9223372036854775807])]) => (show TwAt u (.slice (if mc = 1 then some ⟨g9, 0, none⟩ else some ⟨g9, 5, none⟩) n2 (mc - 1)) l2 from by
                    have h1 := (h.rows _ (.head _)).1
                    unfold TwOwn at h1
                    rw [List.length_cons, ← HN2.out] at h1
                    have hc := own_cap h1
                    by_cases hm1 : mc = 1
                    · have hn0 : n2 = 0 := by omega
                      have hl0 : l2 = [] := List.eq_nil_of_length_eq_zero (by rw [← HN2.out]; exact hn0)
                      rw [if_pos hm1, hl0, hn0, hm1]
                      exact tw_empty u 0 (Nat.zero_le _) g9 0 (h1.lt g9 rfl).2
                    · rw [if_neg hm1]
                      have := own_part h1 1 (n2 + 1) 5 (mc - 1) (by omega) (Nat.le_refl _) (.inr rfl) ⟨by omega, by omega⟩
                      rw [List.take_of_length_le (by rw [List.length_cons, ← HN2.out]; exact Nat.le_refl _)] at this
                      simpa using this))
                  obtain ⟨vA, hvA⟩ : ∃ vA, vA = Value.slice (if mc = 1 then some ⟨g9, 0, none⟩ else some ⟨g9, 5, none⟩) n2 (mc - 1) := ⟨_, rfl⟩
                  have HVA := Lib.hid hvA
                  clear hvA
                  clear HMa
                  have hwn : IntKind.i64.wrap ((n2 : Int) + 1) = (n2 : Int) + 1 := IntWalk.i64_in _ (by omega)
                  have hn11 : (1 : Int) ≤ (n2 : Int) + 1 := by omega
                  go_upto_region 25 with (fail)
                  refine wp_region_held_drew (S := fun u2 => BkE w1 b x [(.slice (some ⟨g9, 0, none⟩) _ _, over tn :: l2), (.slice la _ lc, l2)] [(Y, #[.int .i64 0, .int .i64 9223372036854775807])] u2) (by kernel_rfl) (HSI.out.e) (fun hS => ?_)
                  refine wpAnyH_take (i := 0) (oi := ⟨_, _, _, _, _, _⟩) (v := ?v1) rfl (by kernel_rfl) (by kernel_rfl) (by kernel_rfl) (fun _ _ _ h => h) ?y1 hS ?_
                  case y1 => first | (refine Or.inr ⟨by rfl, ?_⟩; with_reducible rfl) | (refine Or.inl ⟨by rfl, ?_⟩; intro wS hSw; obtain ⟨⟨s0, s1, s2⟩, s3, s4⟩ := BkE.cells hSw HRl.out; have s0 : wS.cell? ⟨g9, 2, none⟩ = some (.int .i64 0) := s0; have s1 : wS.cell? ⟨g9, 3, none⟩ = some (.int .i64 9223372036854775807) := s1; have s2 : wS.cell? ⟨g9, 4, none⟩ = some (.int .i64 (tn : Int)) := s2; go_simp; try with_reducible rfl)
                  simp only [Act.put, List.setIfInBounds_toArray, List.set_cons_zero, List.set_cons_succ]
                  refine wpAnyH_take (i := 1) (oi := ⟨_, _, _, _, _, _⟩) (v := ?v2) rfl (by kernel_rfl) (by kernel_rfl) (by kernel_rfl) (fun _ _ _ h => h) ?y2 hS ?_
                  case y2 => first | (refine Or.inr ⟨by rfl, ?_⟩; with_reducible rfl) | (refine Or.inl ⟨by rfl, ?_⟩; intro wS hSw; obtain ⟨⟨s0, s1, s2⟩, s3, s4⟩ := BkE.cells hSw HRl.out; have s0 : wS.cell? ⟨g9, 2, none⟩ = some (.int .i64 0) := s0; have s1 : wS.cell? ⟨g9, 3, none⟩ = some (.int .i64 9223372036854775807) := s1; have s2 : wS.cell? ⟨g9, 4, none⟩ = some (.int .i64 (tn : Int)) := s2; go_simp; try with_reducible rfl)
                  simp only [Act.put, List.setIfInBounds_toArray, List.set_cons_zero, List.set_cons_succ]
                  refine wpAnyH_take (i := 2) (oi := ⟨_, _, _, _, _, _⟩) (v := ?v3) rfl (by kernel_rfl) (by kernel_rfl) (by kernel_rfl) (fun _ _ _ h => h) ?y3 hS ?_
                  case y3 => first | (refine Or.inr ⟨by rfl, ?_⟩; with_reducible rfl) | (refine Or.inl ⟨by rfl, ?_⟩; intro wS hSw; obtain ⟨⟨s0, s1, s2⟩, s3, s4⟩ := BkE.cells hSw HRl.out; have s0 : wS.cell? ⟨g9, 2, none⟩ = some (.int .i64 0) := s0; have s1 : wS.cell? ⟨g9, 3, none⟩ = some (.int .i64 9223372036854775807) := s1; have s2 : wS.cell? ⟨g9, 4, none⟩ = some (.int .i64 (tn : Int)) := s2; go_simp; try with_reducible rfl)
                  simp only [Act.put, List.setIfInBounds_toArray, List.set_cons_zero, List.set_cons_succ]
                  refine wpAnyH_take (i := 3) (oi := ⟨_, _, _, _, _, _⟩) (v := ?v4) rfl (by kernel_rfl) (by kernel_rfl) (by kernel_rfl) (fun _ _ _ h => h) ?y4 hS ?_
                  case y4 => first | (refine Or.inr ⟨by rfl, ?_⟩; with_reducible rfl) | (refine Or.inl ⟨by rfl, ?_⟩; intro wS hSw; obtain ⟨⟨s0, s1, s2⟩, s3, s4⟩ := BkE.cells hSw HRl.out; have s0 : wS.cell? ⟨g9, 2, none⟩ = some (.int .i64 0) := s0; have s1 : wS.cell? ⟨g9, 3, none⟩ = some (.int .i64 9223372036854775807) := s1; have s2 : wS.cell? ⟨g9, 4, none⟩ = some (.int .i64 (tn : Int)) := s2; go_simp; try with_reducible rfl)
                  simp only [Act.put, List.setIfInBounds_toArray, List.set_cons_zero, List.set_cons_succ]
                  refine wpAnyH_take (i := 4) (oi := ⟨_, _, _, _, _, _⟩) (v := ?v5) rfl (by kernel_rfl) (by kernel_rfl) (by kernel_rfl) (fun _ _ _ h => h) ?y5 hS ?_
                  case y5 => first | (refine Or.inr ⟨by rfl, ?_⟩; with_reducible rfl) | (refine Or.inl ⟨by rfl, ?_⟩; intro wS hSw; obtain ⟨⟨s0, s1, s2⟩, s3, s4⟩ := BkE.cells hSw HRl.out; have s0 : wS.cell? ⟨g9, 2, none⟩ = some (.int .i64 0) := s0; have s1 : wS.cell? ⟨g9, 3, none⟩ = some (.int .i64 9223372036854775807) := s1; have s2 : wS.cell? ⟨g9, 4, none⟩ = some (.int .i64 (tn : Int)) := s2; go_simp; try with_reducible rfl)
                  simp only [Act.put, List.setIfInBounds_toArray, List.set_cons_zero, List.set_cons_succ]
                  refine wpAnyH_take (i := 5) (oi := ⟨_, _, _, _, _, _⟩) (v := ?v6) rfl (by kernel_rfl) (by kernel_rfl) (by kernel_rfl) (fun _ _ _ h => h) ?y6 hS ?_
                  case y6 => first | (refine Or.inr ⟨by rfl, ?_⟩; with_reducible rfl) | (refine Or.inl ⟨by rfl, ?_⟩; intro wS hSw; obtain ⟨⟨s0, s1, s2⟩, s3, s4⟩ := BkE.cells hSw HRl.out; have s0 : wS.cell? ⟨g9, 2, none⟩ = some (.int .i64 0) := s0; have s1 : wS.cell? ⟨g9, 3, none⟩ = some (.int .i64 9223372036854775807) := s1; have s2 : wS.cell? ⟨g9, 4, none⟩ = some (.int .i64 (tn : Int)) := s2; go_simp; try with_reducible rfl)
                  simp only [Act.put, List.setIfInBounds_toArray, List.set_cons_zero, List.set_cons_succ]
                  refine wpAnyH_take (i := 6) (oi := ⟨_, _, _, _, _, _⟩) (v := ?v7) rfl (by kernel_rfl) (by kernel_rfl) (by kernel_rfl) (fun _ _ _ h => h) ?y7 hS ?_
                  case y7 => first | (refine Or.inr ⟨by rfl, ?_⟩; with_reducible rfl) | (refine Or.inl ⟨by rfl, ?_⟩; intro wS hSw; obtain ⟨⟨s0, s1, s2⟩, s3, s4⟩ := BkE.cells hSw HRl.out; have s0 : wS.cell? ⟨g9, 2, none⟩ = some (.int .i64 0) := s0; have s1 : wS.cell? ⟨g9, 3, none⟩ = some (.int .i64 9223372036854775807) := s1; have s2 : wS.cell? ⟨g9, 4, none⟩ = some (.int .i64 (tn : Int)) := s2; go_simp; try with_reducible rfl)
                  simp only [Act.put, List.setIfInBounds_toArray, List.set_cons_zero, List.set_cons_succ]
                  refine wpAnyH_take (i := 7) (oi := ⟨_, _, _, _, _, _⟩) (v := ?v8) rfl (by kernel_rfl) (by kernel_rfl) (by kernel_rfl) (fun _ _ _ h => h) ?y8 hS ?_
                  case y8 => first | (refine Or.inr ⟨by rfl, ?_⟩; with_reducible rfl) | (refine Or.inl ⟨by rfl, ?_⟩; intro wS hSw; obtain ⟨⟨s0, s1, s2⟩, s3, s4⟩ := BkE.cells hSw HRl.out; have s0 : wS.cell? ⟨g9, 2, none⟩ = some (.int .i64 0) := s0; have s1 : wS.cell? ⟨g9, 3, none⟩ = some (.int .i64 9223372036854775807) := s1; have s2 : wS.cell? ⟨g9, 4, none⟩ = some (.int .i64 (tn : Int)) := s2; go_simp; try with_reducible rfl)
                  simp only [Act.put, List.setIfInBounds_toArray, List.set_cons_zero, List.set_cons_succ]
                  refine wpAnyH_take (i := 8) (oi := ⟨_, _, _, _, _, _⟩) (v := ?v9) rfl (by kernel_rfl) (by kernel_rfl) (by kernel_rfl) (fun _ _ _ h => h) ?y9 hS ?_
                  case y9 => first | (refine Or.inr ⟨by rfl, ?_⟩; with_reducible rfl) | (refine Or.inl ⟨by rfl, ?_⟩; intro wS hSw; obtain ⟨⟨s0, s1, s2⟩, s3, s4⟩ := BkE.cells hSw HRl.out; have s0 : wS.cell? ⟨g9, 2, none⟩ = some (.int .i64 0) := s0; have s1 : wS.cell? ⟨g9, 3, none⟩ = some (.int .i64 9223372036854775807) := s1; have s2 : wS.cell? ⟨g9, 4, none⟩ = some (.int .i64 (tn : Int)) := s2; go_simp; try with_reducible rfl)
                  simp only [Act.put, List.setIfInBounds_toArray, List.set_cons_zero, List.set_cons_succ]
                  refine wpAnyH_take (i := 9) (oi := ⟨_, _, _, _, _, _⟩) (v := ?v10) rfl (by kernel_rfl) (by kernel_rfl) (by kernel_rfl) (fun _ _ _ h => h) ?y10 hS ?_
                  case y10 => first | (refine Or.inr ⟨by rfl, ?_⟩; with_reducible rfl) | (refine Or.inl ⟨by rfl, ?_⟩; intro wS hSw; obtain ⟨⟨s0, s1, s2⟩, s3, s4⟩ := BkE.cells hSw HRl.out; have s0 : wS.cell? ⟨g9, 2, none⟩ = some (.int .i64 0) := s0; have s1 : wS.cell? ⟨g9, 3, none⟩ = some (.int .i64 9223372036854775807) := s1; have s2 : wS.cell? ⟨g9, 4, none⟩ = some (.int .i64 (tn : Int)) := s2; go_simp; try with_reducible rfl)
                  simp only [Act.put, List.setIfInBounds_toArray, List.set_cons_zero, List.set_cons_succ]
                  refine wpAnyH_take (i := 10) (oi := ⟨_, _, _, _, _, _⟩) (v := ?v11) rfl (by kernel_rfl) (by kernel_rfl) (by kernel_rfl) (fun _ _ _ h => h) ?y11 hS ?_
                  case y11 => first | (refine Or.inr ⟨by rfl, ?_⟩; with_reducible rfl) | (refine Or.inl ⟨by rfl, ?_⟩; intro wS hSw; obtain ⟨⟨s0, s1, s2⟩, s3, s4⟩ := BkE.cells hSw HRl.out; have s0 : wS.cell? ⟨g9, 2, none⟩ = some (.int .i64 0) := s0; have s1 : wS.cell? ⟨g9, 3, none⟩ = some (.int .i64 9223372036854775807) := s1; have s2 : wS.cell? ⟨g9, 4, none⟩ = some (.int .i64 (tn : Int)) := s2; go_simp; try with_reducible rfl)
                  simp only [Act.put, List.setIfInBounds_toArray, List.set_cons_zero, List.set_cons_succ]
                  refine wpAnyH_take (i := 11) (oi := ⟨_, _, _, _, _, _⟩) (v := ?v12) rfl (by kernel_rfl) (by kernel_rfl) (by kernel_rfl) (fun _ _ _ h => h) ?y12 hS ?_
                  case y12 => first | (refine Or.inr ⟨by rfl, ?_⟩; with_reducible rfl) | (refine Or.inl ⟨by rfl, ?_⟩; intro wS hSw; obtain ⟨⟨s0, s1, s2⟩, s3, s4⟩ := BkE.cells hSw HRl.out; have s0 : wS.cell? ⟨g9, 2, none⟩ = some (.int .i64 0) := s0; have s1 : wS.cell? ⟨g9, 3, none⟩ = some (.int .i64 9223372036854775807) := s1; have s2 : wS.cell? ⟨g9, 4, none⟩ = some (.int .i64 (tn : Int)) := s2; go_simp; try with_reducible rfl)
                  simp only [Act.put, List.setIfInBounds_toArray, List.set_cons_zero, List.set_cons_succ]
                  refine wpAnyH_take (i := 12) (oi := ⟨_, _, _, _, _, _⟩) (v := ?v13) rfl (by kernel_rfl) (by kernel_rfl) (by kernel_rfl) (fun _ _ _ h => h) ?y13 hS ?_
                  case y13 => first | (refine Or.inr ⟨by rfl, ?_⟩; with_reducible rfl) | (refine Or.inl ⟨by rfl, ?_⟩; intro wS hSw; obtain ⟨⟨s0, s1, s2⟩, s3, s4⟩ := BkE.cells hSw HRl.out; have s0 : wS.cell? ⟨g9, 2, none⟩ = some (.int .i64 0) := s0; have s1 : wS.cell? ⟨g9, 3, none⟩ = some (.int .i64 9223372036854775807) := s1; have s2 : wS.cell? ⟨g9, 4, none⟩ = some (.int .i64 (tn : Int)) := s2; go_simp; try with_reducible rfl)
                  simp only [Act.put, List.setIfInBounds_toArray, List.set_cons_zero, List.set_cons_succ]
                  refine wpAnyH_take (i := 13) (oi := ⟨_, _, _, _, _, _⟩) (v := ?v14) rfl (by kernel_rfl) (by kernel_rfl) (by kernel_rfl) (fun _ _ _ h => h) ?y14 hS ?_
                  case y14 => first | (refine Or.inr ⟨by rfl, ?_⟩; with_reducible rfl) | (refine Or.inl ⟨by rfl, ?_⟩; intro wS hSw; obtain ⟨⟨s0, s1, s2⟩, s3, s4⟩ := BkE.cells hSw HRl.out; have s0 : wS.cell? ⟨g9, 2, none⟩ = some (.int .i64 0) := s0; have s1 : wS.cell? ⟨g9, 3, none⟩ = some (.int .i64 9223372036854775807) := s1; have s2 : wS.cell? ⟨g9, 4, none⟩ = some (.int .i64 (tn : Int)) := s2; go_simp; try with_reducible rfl)
                  simp only [Act.put, List.setIfInBounds_toArray, List.set_cons_zero, List.set_cons_succ]
                  refine wpAnyH_take (i := 14) (oi := ⟨_, _, _, _, _, _⟩) (v := ?v15) rfl (by kernel_rfl) (by kernel_rfl) (by kernel_rfl) (fun _ _ _ h => h) ?y15 hS ?_
                  case y15 => first | (refine Or.inr ⟨by rfl, ?_⟩; with_reducible rfl) | (refine Or.inl ⟨by rfl, ?_⟩; intro wS hSw; obtain ⟨⟨s0, s1, s2⟩, s3, s4⟩ := BkE.cells hSw HRl.out; have s0 : wS.cell? ⟨g9, 2, none⟩ = some (.int .i64 0) := s0; have s1 : wS.cell? ⟨g9, 3, none⟩ = some (.int .i64 9223372036854775807) := s1; have s2 : wS.cell? ⟨g9, 4, none⟩ = some (.int .i64 (tn : Int)) := s2; go_simp; try with_reducible rfl)
                  simp only [Act.put, List.setIfInBounds_toArray, List.set_cons_zero, List.set_cons_succ]
                  refine wpAnyH_take (i := 15) (oi := ⟨_, _, _, _, _, _⟩) (v := ?v16) rfl (by kernel_rfl) (by kernel_rfl) (by kernel_rfl) (fun _ _ _ h => h) ?y16 hS ?_
                  case y16 => first | (refine Or.inr ⟨by rfl, ?_⟩; with_reducible rfl) | (refine Or.inl ⟨by rfl, ?_⟩; intro wS hSw; obtain ⟨⟨s0, s1, s2⟩, s3, s4⟩ := BkE.cells hSw HRl.out; have s0 : wS.cell? ⟨g9, 2, none⟩ = some (.int .i64 0) := s0; have s1 : wS.cell? ⟨g9, 3, none⟩ = some (.int .i64 9223372036854775807) := s1; have s2 : wS.cell? ⟨g9, 4, none⟩ = some (.int .i64 (tn : Int)) := s2; go_simp; try with_reducible rfl)
                  simp only [Act.put, List.setIfInBounds_toArray, List.set_cons_zero, List.set_cons_succ]
                  refine wpAnyH_take (i := 16) (oi := ⟨_, _, _, _, _, _⟩) (v := ?v17) rfl (by kernel_rfl) (by kernel_rfl) (by kernel_rfl) (fun _ _ _ h => h) ?y17 hS ?_
                  case y17 => first | (refine Or.inr ⟨by rfl, ?_⟩; with_reducible rfl) | (refine Or.inl ⟨by rfl, ?_⟩; intro wS hSw; obtain ⟨⟨s0, s1, s2⟩, s3, s4⟩ := BkE.cells hSw HRl.out; have s0 : wS.cell? ⟨g9, 2, none⟩ = some (.int .i64 0) := s0; have s1 : wS.cell? ⟨g9, 3, none⟩ = some (.int .i64 9223372036854775807) := s1; have s2 : wS.cell? ⟨g9, 4, none⟩ = some (.int .i64 (tn : Int)) := s2; go_simp; try with_reducible rfl)
                  simp only [Act.put, List.setIfInBounds_toArray, List.set_cons_zero, List.set_cons_succ]
                  refine wpAnyH_take (i := 17) (oi := ⟨_, _, _, _, _, _⟩) (v := ?v18) rfl (by kernel_rfl) (by kernel_rfl) (by kernel_rfl) (fun _ _ _ h => h) ?y18 hS ?_
                  case y18 => first | (refine Or.inr ⟨by rfl, ?_⟩; with_reducible rfl) | (refine Or.inl ⟨by rfl, ?_⟩; intro wS hSw; obtain ⟨⟨s0, s1, s2⟩, s3, s4⟩ := BkE.cells hSw HRl.out; have s0 : wS.cell? ⟨g9, 2, none⟩ = some (.int .i64 0) := s0; have s1 : wS.cell? ⟨g9, 3, none⟩ = some (.int .i64 9223372036854775807) := s1; have s2 : wS.cell? ⟨g9, 4, none⟩ = some (.int .i64 (tn : Int)) := s2; go_simp; try with_reducible rfl)
                  simp only [Act.put, List.setIfInBounds_toArray, List.set_cons_zero, List.set_cons_succ]
                  refine wpAnyH_take (i := 18) (oi := ⟨_, _, _, _, _, _⟩) (v := ?v19) rfl (by kernel_rfl) (by kernel_rfl) (by kernel_rfl) (fun _ _ _ h => h) ?y19 hS ?_
                  case y19 => first | (refine Or.inr ⟨by rfl, ?_⟩; with_reducible rfl) | (refine Or.inl ⟨by rfl, ?_⟩; intro wS hSw; obtain ⟨⟨s0, s1, s2⟩, s3, s4⟩ := BkE.cells hSw HRl.out; have s0 : wS.cell? ⟨g9, 2, none⟩ = some (.int .i64 0) := s0; have s1 : wS.cell? ⟨g9, 3, none⟩ = some (.int .i64 9223372036854775807) := s1; have s2 : wS.cell? ⟨g9, 4, none⟩ = some (.int .i64 (tn : Int)) := s2; go_simp; try with_reducible rfl)
                  simp only [Act.put, List.setIfInBounds_toArray, List.set_cons_zero, List.set_cons_succ]
                  refine wpAnyH_ready (rs := [19]) (by kernel_rfl) (by simp) ?_
                  refine AllReadyH.cons (o := ⟨_, _, _, _, _, _⟩) rfl (fun K hK => ?_) AllReadyH.nil
                  go_simp
                  refine (HRt.out).mono ?_
                  rintro e wx ⟨vT, rfl, ho, hb⟩; have HSA := Lib.hid (HSI.out.later hb); have hS := HSA.out.e; unfold OwnN at ho; rw [← HTn.out] at ho; obtain ⟨ta, tc, rfl⟩ := own_val ho; clear ho hb
                  go_wp2_with fail
                  refine hK.out _ _ hS (fun _ => ?_)
                  clear hK K
                  try simp only [Act.put, List.setIfInBounds_toArray, List.set_cons_zero, List.set_cons_succ]
                  refine wpAnyH_take (i := 20) (oi := ⟨_, _, _, _, _, _⟩) (v := ?v20) rfl (by kernel_rfl) (by kernel_rfl) (by kernel_rfl) (fun _ _ _ h => h) ?y20 hS ?_
                  case y20 => first | (refine Or.inr ⟨by rfl, ?_⟩; with_reducible rfl) | (refine Or.inl ⟨by rfl, ?_⟩; intro wS hSw; obtain ⟨⟨s0, s1, s2⟩, s3, s4⟩ := BkE.cells hSw HRl.out; have s0 : wS.cell? ⟨g9, 2, none⟩ = some (.int .i64 0) := s0; have s1 : wS.cell? ⟨g9, 3, none⟩ = some (.int .i64 9223372036854775807) := s1; have s2 : wS.cell? ⟨g9, 4, none⟩ = some (.int .i64 (tn : Int)) := s2; go_simp; try with_reducible rfl)
                  simp only [Act.put, List.setIfInBounds_toArray, List.set_cons_zero, List.set_cons_succ]
                  refine wpAnyH_take (i := 21) (oi := ⟨_, _, _, _, _, _⟩) (v := ?v21) rfl (by kernel_rfl) (by kernel_rfl) (by kernel_rfl) (fun _ _ _ h => h) ?y21 hS ?_
                  case y21 => first | (refine Or.inr ⟨by rfl, ?_⟩; with_reducible rfl) | (refine Or.inl ⟨by rfl, ?_⟩; intro wS hSw; obtain ⟨⟨s0, s1, s2⟩, s3, s4⟩ := BkE.cells hSw HRl.out; have s0 : wS.cell? ⟨g9, 2, none⟩ = some (.int .i64 0) := s0; have s1 : wS.cell? ⟨g9, 3, none⟩ = some (.int .i64 9223372036854775807) := s1; have s2 : wS.cell? ⟨g9, 4, none⟩ = some (.int .i64 (tn : Int)) := s2; go_simp; try with_reducible rfl)
                  simp only [Act.put, List.setIfInBounds_toArray, List.set_cons_zero, List.set_cons_succ]
                  refine wpAnyH_take (i := 22) (oi := ⟨_, _, _, _, _, _⟩) (v := ?v22) rfl (by kernel_rfl) (by kernel_rfl) (by kernel_rfl) (fun _ _ _ h => h) ?y22 hS ?_
                  case y22 => first | (refine Or.inr ⟨by rfl, ?_⟩; with_reducible rfl) | (refine Or.inl ⟨by rfl, ?_⟩; intro wS hSw; obtain ⟨⟨s0, s1, s2⟩, s3, s4⟩ := BkE.cells hSw HRl.out; have s0 : wS.cell? ⟨g9, 2, none⟩ = some (.int .i64 0) := s0; have s1 : wS.cell? ⟨g9, 3, none⟩ = some (.int .i64 9223372036854775807) := s1; have s2 : wS.cell? ⟨g9, 4, none⟩ = some (.int .i64 (tn : Int)) := s2; go_simp; try with_reducible rfl)
                  simp only [Act.put, List.setIfInBounds_toArray, List.set_cons_zero, List.set_cons_succ]
                  refine wpAnyH_take (i := 23) (oi := ⟨_, _, _, _, _, _⟩) (v := ?v23) rfl (by kernel_rfl) (by kernel_rfl) (by kernel_rfl) (fun _ _ _ h => h) ?y23 hS ?_
                  case y23 => first | (refine Or.inr ⟨by rfl, ?_⟩; with_reducible rfl) | (refine Or.inl ⟨by rfl, ?_⟩; intro wS hSw; obtain ⟨⟨s0, s1, s2⟩, s3, s4⟩ := BkE.cells hSw HRl.out; have s0 : wS.cell? ⟨g9, 2, none⟩ = some (.int .i64 0) := s0; have s1 : wS.cell? ⟨g9, 3, none⟩ = some (.int .i64 9223372036854775807) := s1; have s2 : wS.cell? ⟨g9, 4, none⟩ = some (.int .i64 (tn : Int)) := s2; go_simp; try with_reducible rfl)
                  simp only [Act.put, List.setIfInBounds_toArray, List.set_cons_zero, List.set_cons_succ]
                  refine wpAnyH_take (i := 24) (oi := ⟨_, _, _, _, _, _⟩) (v := ?v24) rfl (by kernel_rfl) (by kernel_rfl) (by kernel_rfl) (fun _ _ _ h => h) ?y24 hS ?_
                  case y24 => first | (refine Or.inr ⟨by rfl, ?_⟩; with_reducible rfl) | (refine Or.inl ⟨by rfl, ?_⟩; intro wS hSw; obtain ⟨⟨s0, s1, s2⟩, s3, s4⟩ := BkE.cells hSw HRl.out; have s0 : wS.cell? ⟨g9, 2, none⟩ = some (.int .i64 0) := s0; have s1 : wS.cell? ⟨g9, 3, none⟩ = some (.int .i64 9223372036854775807) := s1; have s2 : wS.cell? ⟨g9, 4, none⟩ = some (.int .i64 (tn : Int)) := s2; go_simp; try with_reducible rfl)
                  simp only [Act.put, List.setIfInBounds_toArray, List.set_cons_zero, List.set_cons_succ]
                  refine wpAnyH_take (i := 25) (oi := ⟨_, _, _, _, _, _⟩) (v := ?v25) rfl (by kernel_rfl) (by kernel_rfl) (by kernel_rfl) (fun _ _ _ h => h) ?y25 hS ?_
                  case y25 => first | (refine Or.inr ⟨by rfl, ?_⟩; with_reducible rfl) | (refine Or.inl ⟨by rfl, ?_⟩; intro wS hSw; obtain ⟨⟨s0, s1, s2⟩, s3, s4⟩ := BkE.cells hSw HRl.out; have s0 : wS.cell? ⟨g9, 2, none⟩ = some (.int .i64 0) := s0; have s1 : wS.cell? ⟨g9, 3, none⟩ = some (.int .i64 9223372036854775807) := s1; have s2 : wS.cell? ⟨g9, 4, none⟩ = some (.int .i64 (tn : Int)) := s2; go_simp; try with_reducible rfl)
                  simp only [Act.put, List.setIfInBounds_toArray, List.set_cons_zero, List.set_cons_succ]
                  rw [← HVA.out]
                  refine wpAnyH_take (i := 26) (oi := ⟨_, _, _, _, _, _⟩) (v := ?v26) rfl (by kernel_rfl) (by kernel_rfl) (by kernel_rfl) (fun _ _ _ h => h) ?y26 hS ?_
                  case y26 => first | (refine Or.inr ⟨by rfl, ?_⟩; with_reducible rfl) | (refine Or.inl ⟨by rfl, ?_⟩; intro wS hSw; obtain ⟨⟨s0, s1, s2⟩, s3, s4⟩ := BkE.cells hSw HRl.out; have s0 : wS.cell? ⟨g9, 2, none⟩ = some (.int .i64 0) := s0; have s1 : wS.cell? ⟨g9, 3, none⟩ = some (.int .i64 9223372036854775807) := s1; have s2 : wS.cell? ⟨g9, 4, none⟩ = some (.int .i64 (tn : Int)) := s2; go_simp; try with_reducible rfl)
                  simp only [Act.put, List.setIfInBounds_toArray, List.set_cons_zero, List.set_cons_succ]
                  refine wpAnyH_ready (rs := [27]) (by kernel_rfl) (by simp) ?_
                  refine AllReadyH.cons (o := ⟨_, _, _, _, _, _⟩) rfl (fun K hK => ?_) AllReadyH.nil
                  go_simp
                  refine (sameTwigs_any _ _ l2 _ (HVA.out ▸ HAll.out _ _ _ _ HSA.out) (HSA.out.row (.tail _ (.head _)) HOk2.out hl6).at').mono ?_
                  rintro e wx ⟨rfl, hb⟩; have HSB := Lib.hid (HSA.out.later hb); have hS := HSB.out.e; clear hb
                  go_wp2_with fail
                  refine hK.out _ _ hS (fun _ => ?_)
                  clear hK K
                  try simp only [Act.put, List.setIfInBounds_toArray, List.set_cons_zero, List.set_cons_succ]
                  refine wpAnyH_take (i := 28) (oi := ⟨_, _, _, _, _, _⟩) (v := ?v27) rfl (by kernel_rfl) (by kernel_rfl) (by kernel_rfl) (fun _ _ _ h => h) ?y27 hS ?_
                  case y27 => first | (refine Or.inr ⟨by rfl, ?_⟩; with_reducible rfl) | (refine Or.inl ⟨by rfl, ?_⟩; intro wS hSw; obtain ⟨⟨s0, s1, s2⟩, s3, s4⟩ := BkE.cells hSw HRl.out; have s0 : wS.cell? ⟨g9, 2, none⟩ = some (.int .i64 0) := s0; have s1 : wS.cell? ⟨g9, 3, none⟩ = some (.int .i64 9223372036854775807) := s1; have s2 : wS.cell? ⟨g9, 4, none⟩ = some (.int .i64 (tn : Int)) := s2; go_simp; try with_reducible rfl)
                  simp only [Act.put, List.setIfInBounds_toArray, List.set_cons_zero, List.set_cons_succ]
                  refine wpAnyH_take (i := 29) (oi := ⟨_, _, _, _, _, _⟩) (v := ?v28) rfl (by kernel_rfl) (by kernel_rfl) (by kernel_rfl) (fun _ _ _ h => h) ?y28 hS ?_
                  case y28 => first | (refine Or.inr ⟨by rfl, ?_⟩; with_reducible rfl) | (refine Or.inl ⟨by rfl, ?_⟩; intro wS hSw; obtain ⟨⟨s0, s1, s2⟩, s3, s4⟩ := BkE.cells hSw HRl.out; have s0 : wS.cell? ⟨g9, 2, none⟩ = some (.int .i64 0) := s0; have s1 : wS.cell? ⟨g9, 3, none⟩ = some (.int .i64 9223372036854775807) := s1; have s2 : wS.cell? ⟨g9, 4, none⟩ = some (.int .i64 (tn : Int)) := s2; go_simp; try with_reducible rfl)
                  simp only [Act.put, List.setIfInBounds_toArray, List.set_cons_zero, List.set_cons_succ]
                  refine wpAnyH_take (i := 30) (oi := ⟨_, _, _, _, _, _⟩) (v := ?v29) rfl (by kernel_rfl) (by kernel_rfl) (by kernel_rfl) (fun _ _ _ h => h) ?y29 hS ?_
                  case y29 => first | (refine Or.inr ⟨by rfl, ?_⟩; with_reducible rfl) | (refine Or.inl ⟨by rfl, ?_⟩; intro wS hSw; obtain ⟨⟨s0, s1, s2⟩, s3, s4⟩ := BkE.cells hSw HRl.out; have s0 : wS.cell? ⟨g9, 2, none⟩ = some (.int .i64 0) := s0; have s1 : wS.cell? ⟨g9, 3, none⟩ = some (.int .i64 9223372036854775807) := s1; have s2 : wS.cell? ⟨g9, 4, none⟩ = some (.int .i64 (tn : Int)) := s2; go_simp; try with_reducible rfl)
                  simp only [Act.put, List.setIfInBounds_toArray, List.set_cons_zero, List.set_cons_succ]
                  refine wpAnyH_take (i := 31) (oi := ⟨_, _, _, _, _, _⟩) (v := ?v30) rfl (by kernel_rfl) (by kernel_rfl) (by kernel_rfl) (fun _ _ _ h => h) ?y30 hS ?_
                  case y30 => first | (refine Or.inr ⟨by rfl, ?_⟩; with_reducible rfl) | (refine Or.inl ⟨by rfl, ?_⟩; intro wS hSw; obtain ⟨⟨s0, s1, s2⟩, s3, s4⟩ := BkE.cells hSw HRl.out; have s0 : wS.cell? ⟨g9, 2, none⟩ = some (.int .i64 0) := s0; have s1 : wS.cell? ⟨g9, 3, none⟩ = some (.int .i64 9223372036854775807) := s1; have s2 : wS.cell? ⟨g9, 4, none⟩ = some (.int .i64 (tn : Int)) := s2; go_simp; try with_reducible rfl)
                  simp only [Act.put, List.setIfInBounds_toArray, List.set_cons_zero, List.set_cons_succ]
                  refine wpAnyH_ready (rs := [32]) (by kernel_rfl) (by simp) ?_
                  refine AllReadyH.cons (o := ⟨_, _, _, _, _, _⟩) rfl (fun K hK => ?_) AllReadyH.nil
                  go_simp
                  refine (bkBack 0 HSB.out (back_zero HSB.out.bu.right)).mono ?_
                  rintro e wx ⟨rfl, vC, pkC, hC⟩; have HSC := Lib.hid hC; have hS := HSC.out.e; clear hC
                  go_wp2_with fail
                  refine hK.out _ _ hS (fun _ => ?_)
                  clear hK K
                  try simp only [Act.put, List.setIfInBounds_toArray, List.set_cons_zero, List.set_cons_succ]
                  refine wpAnyH_take (i := 33) (oi := ⟨_, _, _, _, _, _⟩) (v := ?v31) rfl (by kernel_rfl) (by kernel_rfl) (by kernel_rfl) (fun _ _ _ h => h) ?y31 hS ?_
                  case y31 => first | (refine Or.inr ⟨by rfl, ?_⟩; with_reducible rfl) | (refine Or.inl ⟨by rfl, ?_⟩; intro wS hSw; obtain ⟨⟨s0, s1, s2⟩, s3, s4⟩ := BkE.cells hSw HRl.out; have s0 : wS.cell? ⟨g9, 2, none⟩ = some (.int .i64 0) := s0; have s1 : wS.cell? ⟨g9, 3, none⟩ = some (.int .i64 9223372036854775807) := s1; have s2 : wS.cell? ⟨g9, 4, none⟩ = some (.int .i64 (tn : Int)) := s2; go_simp; try with_reducible rfl)
                  simp only [Act.put, List.setIfInBounds_toArray, List.set_cons_zero, List.set_cons_succ]
                  refine wpAnyH_take (i := 34) (oi := ⟨_, _, _, _, _, _⟩) (v := ?v32) rfl (by kernel_rfl) (by kernel_rfl) (by kernel_rfl) (fun _ _ _ h => h) ?y32 hS ?_
                  case y32 => first | (refine Or.inr ⟨by rfl, ?_⟩; with_reducible rfl) | (refine Or.inl ⟨by rfl, ?_⟩; intro wS hSw; obtain ⟨⟨s0, s1, s2⟩, s3, s4⟩ := BkE.cells hSw HRl.out; have s0 : wS.cell? ⟨g9, 2, none⟩ = some (.int .i64 0) := s0; have s1 : wS.cell? ⟨g9, 3, none⟩ = some (.int .i64 9223372036854775807) := s1; have s2 : wS.cell? ⟨g9, 4, none⟩ = some (.int .i64 (tn : Int)) := s2; go_simp; try with_reducible rfl)
                  simp only [Act.put, List.setIfInBounds_toArray, List.set_cons_zero, List.set_cons_succ]
                  refine wpAnyH_take (i := 35) (oi := ⟨_, _, _, _, _, _⟩) (v := ?v33) rfl (by kernel_rfl) (by kernel_rfl) (by kernel_rfl) (fun _ _ _ h => h) ?y33 hS ?_
                  case y33 => first | (refine Or.inr ⟨by rfl, ?_⟩; with_reducible rfl) | (refine Or.inl ⟨by rfl, ?_⟩; intro wS hSw; obtain ⟨⟨s0, s1, s2⟩, s3, s4⟩ := BkE.cells hSw HRl.out; have s0 : wS.cell? ⟨g9, 2, none⟩ = some (.int .i64 0) := s0; have s1 : wS.cell? ⟨g9, 3, none⟩ = some (.int .i64 9223372036854775807) := s1; have s2 : wS.cell? ⟨g9, 4, none⟩ = some (.int .i64 (tn : Int)) := s2; go_simp; try with_reducible rfl)
                  simp only [Act.put, List.setIfInBounds_toArray, List.set_cons_zero, List.set_cons_succ]
                  refine wpAnyH_take (i := 36) (oi := ⟨_, _, _, _, _, _⟩) (v := ?v34) rfl (by kernel_rfl) (by kernel_rfl) (by kernel_rfl) (fun _ _ _ h => h) ?y34 hS ?_
                  case y34 => first | (refine Or.inr ⟨by rfl, ?_⟩; with_reducible rfl) | (refine Or.inl ⟨by rfl, ?_⟩; intro wS hSw; obtain ⟨⟨s0, s1, s2⟩, s3, s4⟩ := BkE.cells hSw HRl.out; have s0 : wS.cell? ⟨g9, 2, none⟩ = some (.int .i64 0) := s0; have s1 : wS.cell? ⟨g9, 3, none⟩ = some (.int .i64 9223372036854775807) := s1; have s2 : wS.cell? ⟨g9, 4, none⟩ = some (.int .i64 (tn : Int)) := s2; go_simp; try with_reducible rfl)
                  simp only [Act.put, List.setIfInBounds_toArray, List.set_cons_zero, List.set_cons_succ]
                  refine wpAnyH_take (i := 37) (oi := ⟨_, _, _, _, _, _⟩) (v := ?v35) rfl (by kernel_rfl) (by kernel_rfl) (by kernel_rfl) (fun _ _ _ h => h) ?y35 hS ?_
                  case y35 => first | (refine Or.inr ⟨by rfl, ?_⟩; with_reducible rfl) | (refine Or.inl ⟨by rfl, ?_⟩; intro wS hSw; obtain ⟨⟨s0, s1, s2⟩, s3, s4⟩ := BkE.cells hSw HRl.out; have s0 : wS.cell? ⟨g9, 2, none⟩ = some (.int .i64 0) := s0; have s1 : wS.cell? ⟨g9, 3, none⟩ = some (.int .i64 9223372036854775807) := s1; have s2 : wS.cell? ⟨g9, 4, none⟩ = some (.int .i64 (tn : Int)) := s2; go_simp; try with_reducible rfl)
                  simp only [Act.put, List.setIfInBounds_toArray, List.set_cons_zero, List.set_cons_succ]
                  refine wpAnyH_ready (rs := [38]) (by kernel_rfl) (by simp) ?_
                  refine AllReadyH.cons (o := ⟨_, _, _, _, _, _⟩) rfl (fun K hK => ?_) AllReadyH.nil
                  go_simp
                  refine (bkPut HSC.out (HSC.out.row (.tail _ (.head _)) HOk2.out hl6) hl10 (put_back HRg.out hl24)).mono ?_
                  rintro e wx ⟨rfl, vD, pkD, hD⟩; have HSD := Lib.hid hD; have hS := HSD.out.e; clear hD
                  go_wp2_with fail
                  refine hK.out _ _ hS (fun _ => ?_)
                  clear hK K
                  try simp only [Act.put, List.setIfInBounds_toArray, List.set_cons_zero, List.set_cons_succ]
                  refine wpAnyH_take (i := 39) (oi := ⟨_, _, _, _, _, _⟩) (v := ?v36) rfl (by kernel_rfl) (by kernel_rfl) (by kernel_rfl) (fun _ _ _ h => h) ?y36 hS ?_
                  case y36 => first | (refine Or.inr ⟨by rfl, ?_⟩; with_reducible rfl) | (refine Or.inl ⟨by rfl, ?_⟩; intro wS hSw; obtain ⟨⟨s0, s1, s2⟩, s3, s4⟩ := BkE.cells hSw HRl.out; have s0 : wS.cell? ⟨g9, 2, none⟩ = some (.int .i64 0) := s0; have s1 : wS.cell? ⟨g9, 3, none⟩ = some (.int .i64 9223372036854775807) := s1; have s2 : wS.cell? ⟨g9, 4, none⟩ = some (.int .i64 (tn : Int)) := s2; go_simp; try with_reducible rfl)
                  simp only [Act.put, List.setIfInBounds_toArray, List.set_cons_zero, List.set_cons_succ]
                  refine wpAnyH_take (i := 40) (oi := ⟨_, _, _, _, _, _⟩) (v := ?v37) rfl (by kernel_rfl) (by kernel_rfl) (by kernel_rfl) (fun _ _ _ h => h) ?y37 hS ?_
                  case y37 => first | (refine Or.inr ⟨by rfl, ?_⟩; with_reducible rfl) | (refine Or.inl ⟨by rfl, ?_⟩; intro wS hSw; obtain ⟨⟨s0, s1, s2⟩, s3, s4⟩ := BkE.cells hSw HRl.out; have s0 : wS.cell? ⟨g9, 2, none⟩ = some (.int .i64 0) := s0; have s1 : wS.cell? ⟨g9, 3, none⟩ = some (.int .i64 9223372036854775807) := s1; have s2 : wS.cell? ⟨g9, 4, none⟩ = some (.int .i64 (tn : Int)) := s2; go_simp; try with_reducible rfl)
                  simp only [Act.put, List.setIfInBounds_toArray, List.set_cons_zero, List.set_cons_succ]
                  refine wpAnyH_done (by kernel_rfl) ?_ _
                  obtain ⟨en, hen⟩ : ∃ en, en = endTo l2 := ⟨_, rfl⟩
                  have HEn := Lib.hid hen
                  clear hen HVA HAll HRt HSA HSB HSC HSI hS
                  go_upto_if 161 with (fail)
                  obtain ⟨R9, hR9⟩ : ∃ R9 : List (Value × List Tw), R9 = [(.slice (some ⟨g9, 0, none⟩) (n2 + 1) mc, over tn :: l2), (.slice la n2 lc, l2)] := ⟨_, rfl⟩
                  obtain ⟨K9, hK9⟩ : ∃ K9 : List (Nat × Array Value), K9 = [(Y, #[.int .i64 0, .int .i64 9223372036854775807])] := ⟨_, rfl⟩
                  have HR9 := Lib.hid hR9
                  have HK9 := Lib.hid hK9
                  clear hR9 hK9
                  go_cut [17, 18] (fun vE _ w10 => vE = .int .i64 en ∧ BkS w1 w10 b x vD l2 pkD R9 K9)
                  case first =>
                    by_cases hn0 : 0 < n2
                    · have hn0' : (0 : Int) < n2 := by omega
                      have hend := end_at HRg.out (by rw [← HN2.out]; exact hn0)
                      obtain ⟨kz, rz, hkz, hk1, hrz, hrl, he⟩ := hend
                      rw [← HEn.out] at he
                      obtain ⟨tq, htq⟩ : ∃ tq, tq = (topR l2).length := ⟨_, rfl⟩
                      have htq1 : tq = kz + 1 := by omega
                      have HTq1 := Lib.hid htq1
                      clear htq1
                      have HTq := Lib.hid htq
                      have HKz := Lib.hid hkz
                      have HRz := Lib.hid hrz
                      have HRl2 := Lib.hid hrl
                      clear hk1 hrz htq
                      go_wp2_with fail
                      refine (tRoots_any _ _ (HSD.out.row (.tail _ (.head _)) HOk2.out hl6)).mono ?_
                      rintro e w10 ⟨vT, rfl, ho, hb⟩
                      have HSE := Lib.hid (HSD.out.later hb)
                      have hnm := ho.nm
                      clear ho hb
                      obtain ⟨qa, qc, rfl, hq1, hq2, hq3⟩ := hnm
                      obtain ⟨qb, qo, rfl, hqb, q0⟩ := hq3 kz HKz.out
                      rw [HRz.out] at q0
                      rw [← HTq.out] at hq1
                      have hrl3 := HSE.out.row (.tail _ (.head _)) HOk2.out hl6
                      obtain ⟨tb, toff, rfl, -, -, c2, -⟩ := hrl3.at'.span HRl2.out
                      rw [← he] at c2
                      rw [← HTq.out]
                      have hrn : (rz : Int) < n2 := by have := HRl2.out; have := HN2.out; omega
                      have htq1 := HTq1.out
                      have hkq : (kz : Int) < tq := by omega
                      have hwk : IntKind.i64.wrap ((tq : Int) - 1) = (kz : Int) := (IntWalk.i64_in _ (by unfold maxLen at hq2; omega)).trans (by omega)
                      clear hq3 hrl3 he htq1
                      go_wp2
                      go_meet
                      exact ⟨rfl, by rw [HR9.out, HK9.out]; exact HSE.out⟩
                    · obtain rfl : n2 = 0 := by omega
                      have hn0' : ¬ (0 : Int) < ((0 : Nat) : Int) := by omega
                      have hl0 : l2 = [] := List.eq_nil_of_length_eq_zero HN2.out.symm
                      have he : en = 0 := by rw [HEn.out, hl0]; rfl
                      clear hl0
                      go_wp2
                      go_meet
                      exact ⟨by rw [he], by rw [HR9.out, HK9.out]; exact HSD.out⟩
                  case rest =>
                    obtain ⟨rfl, hbk⟩ := hcut
                    rw [HR9.out, HK9.out] at hbk
                    have HS10 := Lib.hid hbk
                    have hen := endTo_ok HRg.out
                    rw [← HEn.out] at hen
                    obtain ⟨hen0, hen1⟩ := hen
                    clear hbk HSD
                    go_wp2_with fail
                    refine (twig_any _ _ _ _).mono ?_
                    rintro e w11 ⟨rfl, hb⟩
                    have HS10 := Lib.hid (HS10.out.later hb)
                    clear hb
                    go_wp2_with fail
                    refine (twig_any _ _ _ _).mono ?_
                    rintro e w12 ⟨rfl, hb⟩
                    have HS10 := Lib.hid (HS10.out.later hb)
                    clear hb
                    go_wp2_with fail
                    refine (twig_any _ _ _ _).mono ?_
                    rintro e w13 ⟨rfl, hb⟩
                    have HS10 := Lib.hid (HS10.out.later hb)
                    clear hb
                    go_wp2_with fail
                    have hal := one_new w13 (.cells #[.int .i64 0, .int .i64 0, .int .i64 en, .int .i64 en, .int .i64 0, .int .i64 0, .int .i64 0, .int .i64 en, .int .i64 9223372036854775807, .int .i64 1, .int .i64 0, .int .i64 0, .int .i64 en, .int .i64 en, .int .i64 0] 32 (0, 0))
                    generalize w13.alloc (.cells #[.int .i64 0, .int .i64 0, .int .i64 en, .int .i64 en, .int .i64 0, .int .i64 0, .int .i64 0, .int .i64 en, .int .i64 9223372036854775807, .int .i64 1, .int .i64 0, .int .i64 0, .int .i64 en, .int .i64 en, .int .i64 0] 32 (0, 0)) = w14 at hal ⊢
                    obtain ⟨hb, hg⟩ := hal
                    have HS14 := Lib.hid (HS10.out.later hb)
                    generalize w13.heap.size = g14 at hg ⊢
                    have HP14 := Lib.hid (show TwRow w14 (.slice (some ⟨g14, 0, none⟩) 3 3) (tail3 en) from rowS_block (l := tail3 en) hg rfl (by simp [tail3, twOk]; omega) (by simp [tail3]) 3 rfl)
                    clear hb hg
                    have hpt := put_tail HRg.out (most := 240) (by rw [← HN2.out]; omega)
                    rw [← HEn.out] at hpt
                    refine (bkPut HS14.out HP14.out (by simp [tail3]; rw [← HN2.out]; omega) hpt).mono ?_
                    rintro e w15 ⟨rfl, v15, pk15, hS⟩
                    have HS15 := Lib.hid hS
                    clear hS hpt HP14 HS10 HS14
                    have hbk := back_tail HRg.out
                    rw [← HEn.out, ← HN2.out] at hbk
                    have HBt := Lib.hid hbk
                    clear hbk
                    go_wp2_with fail
                    refine (bkBack n2 HS15.out HBt.out).mono ?_
                    rintro e w16 ⟨rfl, v16, pk16, hS⟩
                    have HS16 := Lib.hid hS
                    clear hS HS15 HBt
                    go_wp2_with fail
                    refine (bkSince HS16.out).mono ?_
                    rintro e w17 ⟨vr, rfl, hS⟩
                    have HS17 := Lib.hid hS
                    clear hS HS16
                    go_wp2_with fail
                    refine (sameTwigs_any _ _ l2 _ (HS17.out.row (.head _) HOk2.out hl6).at' (HS17.out.row (.tail _ (.tail _ (.head _))) HOk2.out hl6).at').mono ?_
                    rintro e w18 ⟨rfl, hb⟩
                    have HS18 := Lib.hid (HS17.out.later hb)
                    clear hb HS17
                    go_wp2
                    go_roundw
                    case rel => exact ⟨j + 1, _, _, _, by omega, by go_num, HS18.out.free, HL4.out⟩
                    case measure => simp [intOf]; omega
              · have hjl' : ¬ (j : Int) < k := by omega
                go_wp2
                go_ret
                exact ⟨rfl, HB1.out.trans (HS.out.bl.mono HB1.out.size)⟩
          · have hs30' : (30 : Int) < ns := by omega
            go_wp2
            go_ret
            exact ⟨rfl, HB1.out⟩
        · have hr30' : (30 : Int) < k := by omega
          go_wp2
          go_ret
          exact ⟨rfl, HB1.out⟩
      · have hs' : ¬ (nr : Int) + ns + T ≤ 120 := by omega
        have hs2 : (120 : Int) < nr + ns + T := by omega
        by_cases hlt2 : k < nr
        · have hlt' : (k : Int) < nr := by omega
          go_wp2
          go_ret
          exact ⟨rfl, HB1.out⟩
        · have hlt' : ¬ (k : Int) < nr := by omega
          go_wp2
          go_ret
          exact ⟨rfl, HB1.out⟩
end Go.Proofs.Ytadkjjpopmiceaa
