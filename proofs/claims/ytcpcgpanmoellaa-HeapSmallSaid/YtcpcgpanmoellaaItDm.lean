import Derived.Test.YtcpcgpanmoellaaItCm
import Derived.Test.YtcpcgpanmoellaaHdBm
namespace Go.Proofs.Ytcpcgpanmoellaa
open Go.RowKit Go.Lib

theorem Try.infoHItem : (Try.prog.info? 30).map (fun i => (i.zero, i.size, i.bytes)) = some (some (.agg #[.int .i64 0, .int .i64 0]), 2, 16) := by kernel_rfl
set_option maxRecDepth 100000 in
set_option maxHeartbeats 8000000 in
theorem heapDoes_main (W : World) (v0 v1 : Value) (l : List (Int × Int)) (d : List Dd) (h0 : ItW W v0 l) (h1 : DdW W v1 d) (s0 : l.length ≤ 140737488351232) (s1 : d.length ≤ 140737488351232) :
    Calls Try.prog 5 #[v0, v1] W fun en w' => en = .returned (.bool true) ∧ Below W.heap.size W w' := by
  obtain ⟨ao, b, off, cap, rfl, hlc, hm, han, hao, hc⟩ := h0.cells
  obtain ⟨do_, db, doff, dcap, rfl, hdlc, hdm, hdo, hdc⟩ := h1.cells
  have H0 := Lib.hid h0
  have H1 := Lib.hid h1
  have HAo := Lib.hid hao
  have HAn := Lib.hid han
  have HC := Lib.hid hc
  have HDo := Lib.hid hdo
  have HDc := Lib.hid hdc
  obtain ⟨n, hn⟩ : ∃ n, n = l.length := ⟨_, rfl⟩
  obtain ⟨m, hmm⟩ : ∃ m, m = d.length := ⟨_, rfl⟩
  have HN := Lib.hid hn
  have HM := Lib.hid hmm
  rw [← hn] at hlc s0 ⊢
  rw [← hmm] at hdlc s1 ⊢
  unfold maxLen at hm hdm
  clear h0 h1 hao han hc hdo hdc hn hmm
  go_enter Try.func5, Try.ntmps5
  by_cases hl : 300 < n + m
  · have hl2 : (n : Int) + m > 300 := by omega
    go_wp2_with fail
    refine (awake_any W).mono ?_
    rintro en w ⟨rfl, hb⟩
    go_wp2
    go_ret
    exact ⟨rfl, hb⟩
  have hl2 : ¬ (n : Int) + m > 300 := by omega
  have hl3 : n + m ≤ 300 := by omega
  obtain ⟨i0, hi0, hz0, hz1, hz2⟩ := info_parts Try.infoHItem
  have hal : Below W.heap.size W (W.alloc (.cells #[] 30)) := (Below.refl _ _).alloc (Nat.le_refl _) _
  have hnews : ∀ ad, ao = some ad → ∀ j u, (l.flatMap ite)[j]? = some u → (W.alloc (.cells #[] 30)).cell? (ad.add j) = some u := fun ad ha j u hj => by
    have hjl := (List.getElem?_eq_some_iff.1 hj).1
    rw [flat_len ite_len] at hjl
    obtain ⟨e1, e2⟩ := HAo.out (by omega)
    rw [ha] at e1
    cases e1
    exact ItW.news (n := l.length) (ao := ao) (cap := cap) rfl (fun i hi => ⟨(hal.cell (p := ⟨b, _, none⟩) e2).trans (HC.out i hi).1, (hal.cell (p := ⟨b, _, none⟩) e2).trans (HC.out i hi).2⟩) j u hj
  have hln : (l.flatMap ite).length = n * 2 := by rw [flat_len ite_len, HN.out]
  have hxo : ao = none → n = 0 := fun h => by have := (HAn.out h).1; rw [HN.out]; exact this
  have HNews := Lib.hid hnews
  have HLn := Lib.hid hln
  have HXo := Lib.hid hxo
  clear hnews hln hxo hal
  go_wp2_with (at_builtin; refine wpList_append_opt rfl (.tmp 20) (.tmp 21) 40 rfl W.heap.size 30 i0 _ 2 16 Try.underlying40 hi0 hz0 hz1 hz2 rfl (by decide) (some ⟨W.heap.size, 0, none⟩) 0 0 [] rfl (empty_row (heap_alloc_new W _) (Nat.le_refl _)) ao n cap (l.flatMap ite) rfl HXo.out HLn.out HNews.out (flat_one ite_one l) (by unfold maxLen; omega) (by omega) (by simp) (Nat.le_refl _) ?_; intro vO w1 hownO hgrow)
  simp only [Nat.zero_add, List.nil_append] at hownO
  have hbO : Below W.heap.size W w1 := ((Below.refl W.heap.size W).alloc (Nat.le_refl _) _).grown hgrow (by simp) (fun r hr => by simp [Value.ownBlock] at hr; omega)
  have HItA := Lib.hid (own_it HN.out hownO)
  have HNw := Lib.hid (quNew_any w1 HItA.out H0.out.2 (by rw [← HN.out]; omega))
  have HOwn := Lib.hid hownO
  have HBO := Lib.hid hbO
  obtain ⟨oo, ocap, rfl⟩ := own_val hownO
  obtain ⟨P, hP⟩ : ∃ P, P = putQ 0 [] l := ⟨_, rfl⟩
  rw [← hP] at HNw
  have HP := Lib.hid hP
  clear hownO hgrow hbO HNews HLn HXo hP hi0 hz0 hz1 hz2
  go_wp2_with fail
  refine HNw.out.mono ?_
  rintro en w2 ⟨qo, rfl, hb2, hq1, hq2⟩
  have HB2 := Lib.hid hb2
  have HQ1 := Lib.hid hq1
  have HQ2 := Lib.hid hq2
  clear hb2 hq1 hq2 HNw HItA
  go_upto_region 6 with (fail)
  refine gen_world (S := fun u => Below w2.heap.size w2 u ∧ u.heap[w2.heap.size]? = some (.cells #[.slice none 0 0] 49 (0, 0))) (one_new w2 _) (fun u hu => ?_)
  obtain ⟨hbu, hxu⟩ := hu
  obtain ⟨r, hr⟩ : ∃ r, r = w2.heap.size := ⟨_, rfl⟩
  obtain ⟨B, hB⟩ : ∃ B, B = w1.heap.size := ⟨_, rfl⟩
  have HrB := Lib.hid (show B ≤ r from by rw [hr, hB]; exact HB2.out.size)
  have HBu := Lib.hid (show Below B w1 u from by rw [hB]; exact HB2.out.trans (hbu.mono HB2.out.size))
  have HRq := Lib.hid (show Rq B u r (.slice none 0 0) [] from ⟨by rw [hr]; exact hxu, World.ownsRow_nil _ _ _ _, by simp⟩)
  have HQu := Lib.hid (show P.1 = true → ∃ q, qo = some ⟨q, 0, none⟩ ∧ Qu B u q P.2.1 P.2.2 from fun e => by
    obtain ⟨q, h1, -, h3⟩ := HQ1.out e
    exact ⟨q, h1, by rw [hB]; exact h3.later hbu⟩)
  have HrU := Lib.hid (show r < u.heap.size from lt_of_block HRq.out.blk)
  have HWB := Lib.hid (show W.heap.size ≤ B from by rw [hB]; exact HBO.out.size)
  have HBu0 := Lib.hid (show Below W.heap.size W u from HBO.out.trans (HBu.out.mono HWB.out))
  rw [← hr]
  clear hbu hxu hr HQ1 HB2
  have HIts := Lib.hid (items_any u (H0.out.later HBu0.out).itc (by rw [← HN.out]; omega))
  rw [← HN.out] at HIts
  go_wp2_with fail
  refine HIts.out.mono ?_
  rintro en w3 ⟨vi, rfl, hri, hb3⟩
  obtain ⟨io, icap, rfl⟩ := own_val hri
  have hRq3 := HRq.out.later hb3
  obtain ⟨ib, hi1, hi2, hi3⟩ : ∃ ib : Nat, (0 < l.length → io = some ⟨ib, 0, none⟩) ∧ (∀ i (h : i < l.length), w3.cell? ⟨ib, 0 + i * 2, none⟩ = some (.int .i64 l[i].1) ∧ w3.cell? ⟨ib, 0 + i * 2 + 1, none⟩ = some (.int .i64 l[i].2)) ∧ ib ≠ r := by
    obtain ⟨ib, hi1, hi2⟩ := own_cells2 HN.out hri
    by_cases hp : 0 < l.length
    · refine ⟨ib, fun h => (hi1 h).1, hi2, fun e => ?_⟩
      obtain ⟨-, cs, hcs⟩ := hi1 hp
      rw [e, hRq3.blk] at hcs
      simp at hcs
    · exact ⟨r + 1, fun h => absurd h hp, fun i h => by omega, by omega⟩
  have hru := HrU.out
  have hput := rPut (b := ib) (off := 0) (cap2 := icap) (ao := io) w3 hRq3 (t := 0) (l := l) ⟨List.Pairwise.nil, by simp, List.Pairwise.nil, by simp, by omega⟩ (by have := HBu.out.size; have := hb3.size; have := HWB.out; omega) (by simp; rw [← HN.out]; omega) hi1 hi3 (by simp [Value.ownBlock]) hi2
  rw [← HN.out, ← HP.out] at hput
  have HPut := Lib.hid hput
  have HB3 := Lib.hid hb3
  have HR3 := Lib.hid hRq3
  clear hri hb3 hi1 hi2 hi3 hput hRq3 HIts
  go_wp2_with fail
  refine HPut.out.mono ?_
  rintro en w4 ⟨rfl, vR, hR4, hk4, hv4⟩
  obtain ⟨q, hq⟩ : ∃ q, P.1 = true → qo = some ⟨q, 0, none⟩ ∧ Qu B u q P.2.1 P.2.2 := by
    cases hp : P.1 with
    | true => obtain ⟨q, h1⟩ := HQu.out hp; exact ⟨q, fun _ => h1⟩
    | false => exact ⟨0, fun h => by cases h⟩
  have hS4 : ∀ k, (k = r ∨ (Value.slice none 0 0).ownBlock = some k) → ∃ cs, w3.heap[k]? = some (.cells cs 49 (0, 0)) := fun k hk => by
    rcases hk with rfl | hk
    · exact ⟨_, HR3.out.blk⟩
    · simp [Value.ownBlock] at hk
  have hd : DoS W P.1 B q r oo n ocap vR P.2.1 P.2.2 l 0 w4 := by
    have hb4 : Below B w3 w4 := Keeps.below hk4 (by have := HBu.out.size; have := HB3.out.size; have := HrB.out; have := HrU.out; omega) (fun k hk => by
      rcases hk with rfl | hk
      · exact HrB.out
      · simp [Value.ownBlock] at hk)
    refine ⟨fun e => ((hq e).2.later HB3.out).keepR hk4 (fun k hk => (hS4 k hk).imp fun cs h => .inl h), hR4, HBu0.out.trans ((HB3.out.mono HBu0.out.size).trans (hb4.mono HWB.out)), ?_, l, HN.out.symm, fun _ _ => rfl, ?_⟩
    · have := HrB.out; have := HrU.out; have := HB3.out.size; have := hk4.size; omega
    · have h1 : u.ownsRow W.heap.size 30 2 (.slice oo n ocap) n (l.flatMap ite) := row_kept (S := fun _ => False) HOwn.out (Keeps.ofNew (by have := HBu.out; rw [hB] at this; exact this) _) (fun _ _ _ h => h)
      have h2 : w3.ownsRow W.heap.size 30 2 (.slice oo n ocap) n (l.flatMap ite) := row_kept (S := fun _ => False) h1 (Keeps.ofNew HB3.out _) (fun _ _ _ h => h)
      refine row_kept h2 hk4 (fun k cs hc hk => ?_)
      obtain ⟨ds, hds⟩ := hS4 k hk
      rw [hc] at hds
      simp at hds
  have HD := Lib.hid hd
  have HQ := Lib.hid (show P.1 = true → qo = some ⟨q, 0, none⟩ from fun e => (hq e).1)
  clear hR4 hk4 hv4 hq hS4 hd HR3 HB3 HRq HQu HPut hB HBu HBu0 HOwn HBO HrU hru u w1 w2 w3
  go_wp2
  go_loopw [10] (fun i wr => ∃ k : Nat, k ≤ n ∧ i = .int .i64 k ∧ DoS W P.1 B q r oo n ocap vR P.2.1 P.2.2 l k wr) (fun i _ => n - (intOf i).toNat)
  case atStart => exact ⟨0, Nat.zero_le _, rfl, HD.out⟩
  case round =>
    obtain ⟨k, hk, rfl, hs⟩ := hrel
    by_cases hlt : k < n
    · have hlt2 : (k : Int) < n := by omega
      obtain ⟨g, hg⟩ : ∃ g, oo = some ⟨g, 0, none⟩ := by
        obtain ⟨L, -, -, h3⟩ := hs.own
        obtain ⟨g, cap', he⟩ := own_shape h3 (by omega)
        simp only [Value.slice.injEq] at he
        exact ⟨g, he.1⟩
      subst hg
      obtain ⟨⟨o0, o1⟩, f0, f1⟩ := hs.cells rfl hlt HN.out.symm
      obtain ⟨rfl, hbl⟩ := HAo.out (by rw [← HN.out]; omega)
      obtain ⟨c0, c1⟩ := HC.out k (by rw [← HN.out]; exact hlt)
      have d0 := (hs.bel.cell (p := ⟨b, _, none⟩) hbl).trans c0
      have d1 := (hs.bel.cell (p := ⟨b, _, none⟩) hbl).trans c1
      have HS2 := Lib.hid (fun nq => (hs.later (below_draws (Below.refl wr.heap.size wr) nq)).put rfl hlt)
      obtain ⟨xk, hxk⟩ : ∃ z, z = (l[k]'(by rw [← HN.out]; exact hlt)).1 := ⟨_, rfl⟩
      obtain ⟨xn, hxn⟩ : ∃ z, z = (l[k]'(by rw [← HN.out]; exact hlt)).2 := ⟨_, rfl⟩
      rw [← hxk] at o0 d0
      rw [← hxn] at o1 d1
      have hkc : k < ocap := by
        obtain ⟨L, -, -, h3⟩ := hs.own
        obtain ⟨g', cap', cur, hv, -, -, h1, -⟩ := h3.2.resolve_left (fun h => by simp at h)
        simp only [Value.slice.injEq] at hv
        omega
      clear hs c0 c1 hxk hxn
      go_upto_region 12 with (fail)
      go_big_quiet (fail)
      go_wp2
      go_roundw
      case rel => exact ⟨k + 1, by omega, by go_num, HS2.out _⟩
      case measure => simp [intOf]; omega
    · have hkn : k = n := by omega
      have hk3 : ¬ (k : Int) < n := by omega
      rw [hkn] at hs
      cases hP1 : P.1 with
      | false =>
        have hqo := HQ2.out hP1
        subst hqo
        have HS := Lib.hid hs.bel
        clear hs
        simp only [putE, Bool.false_eq_true, if_true, if_false]
        go_wp2_with fail
        refine (awake_any wr).mono ?_
        rintro en w ⟨rfl, hb⟩
        go_wp2
        go_ret
        exact ⟨rfl, HS.out.trans (hb.mono HS.out.size)⟩
      | true =>
        have hqo := HQ.out hP1
        subst hqo
        have HS := Lib.hid hs
        clear hs
        simp only [putE, Bool.false_eq_true, if_true, if_false]
        generalize wr = w5 at HS ⊢
        have htw : Two B q r w5 w5 P.2.1 P.2.2 P.2.1 P.2.2 := by
          have hq := HS.out.qu hP1
          obtain ⟨cq, hcq⟩ := hq.qblk
          refine ⟨hq, ⟨vR, HS.out.rq, fun k hk e => ?_⟩, hq.trn, Below.refl _ _, HS.out.sz, HrB.out⟩
          obtain ⟨cs, h3⟩ := own_typed HS.out.rq.row hk
          rw [e, hcq] at h3
          simp at h3
        have hpl := putQ_len l 0 []
        rw [← HP.out, ← HN.out] at hpl
        have hM0 : P.2.2.length ≤ n := by have := hpl.1; simpa using this
        have hT0 : P.2.1 ≤ n := by have := hpl.2.1; omega
        have HTw := Lib.hid htw
        have HB5 := Lib.hid HS.out.bel
        generalize P.2.1 = t0 at htw HTw hT0
        generalize P.2.2 = M0 at htw HTw hM0
        clear htw hpl HS HQ HQ2 hP1 HD HP
        go_wp2
        go_loopw [6, 11, 12] (fun qv i _ wr => ∃ (k q : Nat) (t : Int) (M : List En), k ≤ m ∧ qv = .pointer (some ⟨q, 0, none⟩) ∧ i = .int .i64 k ∧ Two B q r w5 wr t M t M ∧ M.length ≤ n + 2 * k ∧ t ≤ n + 2 * k) (fun _ i _ _ => m - (intOf i).toNat)
        case atStart => exact ⟨0, q, t0, M0, Nat.zero_le _, rfl, rfl, HTw.out, by omega, by omega⟩
        case round =>
          obtain ⟨k, q, t, M, hk, rfl, rfl, htw, hM, ht⟩ := hrel
          by_cases hlt : k < m
          · have hlt2 : (k : Int) < m := by omega
            obtain ⟨rfl, hdbl⟩ := HDo.out (by rw [← HM.out]; omega)
            obtain ⟨c0, c1, c2⟩ := HDc.out k (by rw [← HM.out]; exact hlt)
            obtain ⟨-, hwf⟩ := H1.out.2 (d[k]'(by rw [← HM.out]; exact hlt)) (List.getElem_mem _)
            obtain ⟨da, hda⟩ : ∃ z, z = (d[k]'(by rw [← HM.out]; exact hlt)).what := ⟨_, rfl⟩
            obtain ⟨dk, hdk⟩ : ∃ z, z = (d[k]'(by rw [← HM.out]; exact hlt)).key := ⟨_, rfl⟩
            obtain ⟨dn, hdn⟩ : ∃ z, z = (d[k]'(by rw [← HM.out]; exact hlt)).name := ⟨_, rfl⟩
            rw [← hda] at c0
            rw [← hdk] at c1
            rw [← hdn] at c2 hwf
            have HCl := Lib.hid (fun u (hb : Below W.heap.size W u) => And.intro ((hb.cell (p := ⟨db, _, none⟩) hdbl).trans c0) (And.intro ((hb.cell (p := ⟨db, _, none⟩) hdbl).trans c1) ((hb.cell (p := ⟨db, _, none⟩) hdbl).trans c2)))
            have HWf := Lib.hid hwf
            clear c0 c1 c2 hwf hda hdk hdn
            have hDeed := deed_any da dk dn wr htw HWf.out (by omega) (by omega)
            have HDeed := Lib.hid hDeed
            have hbw : Below W.heap.size W wr := HB5.out.trans (htw.bel.mono HWB.out)
            obtain ⟨c0, c1, c2⟩ := HCl.out wr hbw
            clear hDeed htw hbw
            go_wp2_with fail
            refine HDeed.out.mono ?_
            rintro e w6 ⟨rfl, t2, M2, htw2, hM2, ht2⟩
            have HTw2 := Lib.hid htw2
            have HB6 := Lib.hid (show Below W.heap.size W w6 from HB5.out.trans (htw2.bel.mono HWB.out))
            have hM6 : M2.length ≤ n + 2 * (k + 1) := by omega
            have ht6 : t2 ≤ n + 2 * (k + 1) := by omega
            clear c0 c1 c2 htw2 HDeed hM ht hM2 ht2
            obtain ⟨c0, c1, c2⟩ := HCl.out w6 HB6.out
            obtain ⟨p, hp⟩ : ∃ p : Nat, pickN da 6 = p := ⟨(pickN da 6).toNat, by have := pickN_range da 6 (by omega); omega⟩
            have hp6 : p < 6 := by have := pickN_range da 6 (by omega); omega
            have hpk := pick_any w6 da 6 (by omega) (by omega)
            rw [hp] at hpk
            have HPk := Lib.hid hpk
            clear hp hpk
            go_wp2_with fail
            refine HPk.out.mono ?_
            rintro e w7 ⟨rfl, rfl⟩
            by_cases h4 : p = 4
            · subst h4
              clear c0 c1 c2
              have HCo := Lib.hid (quCopy w6 HTw2.out.qu)
              go_wp2_with fail
              refine HCo.out.mono ?_
              rintro e w7 ⟨o, rfl, hqo, hb7⟩
              have HQo := Lib.hid hqo
              have HB7 := Lib.hid hb7
              have HBW7 := Lib.hid (show Below W.heap.size W w7 from HB6.out.trans (hb7.mono HB6.out.size))
              have HQ7 := Lib.hid (HTw2.out.qu.rewatch hb7 (mid w6.heap.size w7.heap.size) (fun j h1 h2 => by have : w6.heap.size ≤ j := h2.1; omega) (Nat.le_refl _))
              clear hqo hb7 HCo HPk
              go_upto_region 24 with (fail)
              refine wp_region_held_drew (S := fun wq => Below W.heap.size W wq) (by kernel_rfl) HBW7.out.drew (fun hS => ?_)
              refine wpAnyH_take (i := 0) (oi := ⟨_, _, _, _, _, _⟩) (v := ?v1) rfl (by kernel_rfl) (by kernel_rfl) (by kernel_rfl) (fun _ _ _ h => h) ?y1 hS ?_
              case y1 => first | (refine Or.inr ⟨by rfl, ?_⟩; with_reducible rfl) | (refine Or.inl ⟨by rfl, ?_⟩; intro wS hSw; obtain ⟨c0S, c1S, c2S⟩ := HCl.out _ hSw; go_simp; try with_reducible rfl)
              simp only [Act.put, List.setIfInBounds_toArray, List.set_cons_zero, List.set_cons_succ]
              refine wpAnyH_take (i := 1) (oi := ⟨_, _, _, _, _, _⟩) (v := ?v2) rfl (by kernel_rfl) (by kernel_rfl) (by kernel_rfl) (fun _ _ _ h => h) ?y2 hS ?_
              case y2 => first | (refine Or.inr ⟨by rfl, ?_⟩; with_reducible rfl) | (refine Or.inl ⟨by rfl, ?_⟩; intro wS hSw; obtain ⟨c0S, c1S, c2S⟩ := HCl.out _ hSw; go_simp; try with_reducible rfl)
              simp only [Act.put, List.setIfInBounds_toArray, List.set_cons_zero, List.set_cons_succ]
              refine wpAnyH_take (i := 2) (oi := ⟨_, _, _, _, _, _⟩) (v := ?v3) rfl (by kernel_rfl) (by kernel_rfl) (by kernel_rfl) (fun _ _ _ h => h) ?y3 hS ?_
              case y3 => first | (refine Or.inr ⟨by rfl, ?_⟩; with_reducible rfl) | (refine Or.inl ⟨by rfl, ?_⟩; intro wS hSw; obtain ⟨c0S, c1S, c2S⟩ := HCl.out _ hSw; go_simp; try with_reducible rfl)
              simp only [Act.put, List.setIfInBounds_toArray, List.set_cons_zero, List.set_cons_succ]
              refine wpAnyH_take (i := 3) (oi := ⟨_, _, _, _, _, _⟩) (v := ?v4) rfl (by kernel_rfl) (by kernel_rfl) (by kernel_rfl) (fun _ _ _ h => h) ?y4 hS ?_
              case y4 => first | (refine Or.inr ⟨by rfl, ?_⟩; with_reducible rfl) | (refine Or.inl ⟨by rfl, ?_⟩; intro wS hSw; obtain ⟨c0S, c1S, c2S⟩ := HCl.out _ hSw; go_simp; try with_reducible rfl)
              simp only [Act.put, List.setIfInBounds_toArray, List.set_cons_zero, List.set_cons_succ]
              refine wpAnyH_take (i := 4) (oi := ⟨_, _, _, _, _, _⟩) (v := ?v5) rfl (by kernel_rfl) (by kernel_rfl) (by kernel_rfl) (fun _ _ _ h => h) ?y5 hS ?_
              case y5 => first | (refine Or.inr ⟨by rfl, ?_⟩; with_reducible rfl) | (refine Or.inl ⟨by rfl, ?_⟩; intro wS hSw; obtain ⟨c0S, c1S, c2S⟩ := HCl.out _ hSw; go_simp; try with_reducible rfl)
              simp only [Act.put, List.setIfInBounds_toArray, List.set_cons_zero, List.set_cons_succ]
              refine wpAnyH_take (i := 5) (oi := ⟨_, _, _, _, _, _⟩) (v := ?v6) rfl (by kernel_rfl) (by kernel_rfl) (by kernel_rfl) (fun _ _ _ h => h) ?y6 hS ?_
              case y6 => first | (refine Or.inr ⟨by rfl, ?_⟩; with_reducible rfl) | (refine Or.inl ⟨by rfl, ?_⟩; intro wS hSw; obtain ⟨c0S, c1S, c2S⟩ := HCl.out _ hSw; go_simp; try with_reducible rfl)
              simp only [Act.put, List.setIfInBounds_toArray, List.set_cons_zero, List.set_cons_succ]
              refine wpAnyH_take (i := 6) (oi := ⟨_, _, _, _, _, _⟩) (v := ?v7) rfl (by kernel_rfl) (by kernel_rfl) (by kernel_rfl) (fun _ _ _ h => h) ?y7 hS ?_
              case y7 => first | (refine Or.inr ⟨by rfl, ?_⟩; with_reducible rfl) | (refine Or.inl ⟨by rfl, ?_⟩; intro wS hSw; obtain ⟨c0S, c1S, c2S⟩ := HCl.out _ hSw; go_simp; try with_reducible rfl)
              simp only [Act.put, List.setIfInBounds_toArray, List.set_cons_zero, List.set_cons_succ]
              refine wpAnyH_take (i := 7) (oi := ⟨_, _, _, _, _, _⟩) (v := ?v8) rfl (by kernel_rfl) (by kernel_rfl) (by kernel_rfl) (fun _ _ _ h => h) ?y8 hS ?_
              case y8 => first | (refine Or.inr ⟨by rfl, ?_⟩; with_reducible rfl) | (refine Or.inl ⟨by rfl, ?_⟩; intro wS hSw; obtain ⟨c0S, c1S, c2S⟩ := HCl.out _ hSw; go_simp; try with_reducible rfl)
              simp only [Act.put, List.setIfInBounds_toArray, List.set_cons_zero, List.set_cons_succ]
              refine wpAnyH_take (i := 8) (oi := ⟨_, _, _, _, _, _⟩) (v := ?v9) rfl (by kernel_rfl) (by kernel_rfl) (by kernel_rfl) (fun _ _ _ h => h) ?y9 hS ?_
              case y9 => first | (refine Or.inr ⟨by rfl, ?_⟩; with_reducible rfl) | (refine Or.inl ⟨by rfl, ?_⟩; intro wS hSw; obtain ⟨c0S, c1S, c2S⟩ := HCl.out _ hSw; go_simp; try with_reducible rfl)
              simp only [Act.put, List.setIfInBounds_toArray, List.set_cons_zero, List.set_cons_succ]
              refine wpAnyH_take (i := 9) (oi := ⟨_, _, _, _, _, _⟩) (v := ?v10) rfl (by kernel_rfl) (by kernel_rfl) (by kernel_rfl) (fun _ _ _ h => h) ?y10 hS ?_
              case y10 => first | (refine Or.inr ⟨by rfl, ?_⟩; with_reducible rfl) | (refine Or.inl ⟨by rfl, ?_⟩; intro wS hSw; obtain ⟨c0S, c1S, c2S⟩ := HCl.out _ hSw; go_simp; try with_reducible rfl)
              simp only [Act.put, List.setIfInBounds_toArray, List.set_cons_zero, List.set_cons_succ]
              refine wpAnyH_take (i := 10) (oi := ⟨_, _, _, _, _, _⟩) (v := ?v11) rfl (by kernel_rfl) (by kernel_rfl) (by kernel_rfl) (fun _ _ _ h => h) ?y11 hS ?_
              case y11 => first | (refine Or.inr ⟨by rfl, ?_⟩; with_reducible rfl) | (refine Or.inl ⟨by rfl, ?_⟩; intro wS hSw; obtain ⟨c0S, c1S, c2S⟩ := HCl.out _ hSw; go_simp; try with_reducible rfl)
              simp only [Act.put, List.setIfInBounds_toArray, List.set_cons_zero, List.set_cons_succ]
              refine wpAnyH_take (i := 11) (oi := ⟨_, _, _, _, _, _⟩) (v := ?v12) rfl (by kernel_rfl) (by kernel_rfl) (by kernel_rfl) (fun _ _ _ h => h) ?y12 hS ?_
              case y12 => first | (refine Or.inr ⟨by rfl, ?_⟩; with_reducible rfl) | (refine Or.inl ⟨by rfl, ?_⟩; intro wS hSw; obtain ⟨c0S, c1S, c2S⟩ := HCl.out _ hSw; go_simp; try with_reducible rfl)
              simp only [Act.put, List.setIfInBounds_toArray, List.set_cons_zero, List.set_cons_succ]
              refine wpAnyH_ready (rs := [12]) (by kernel_rfl) (by simp) ?_
              refine AllReadyH.cons (o := ⟨_, _, _, _, _, _⟩) rfl (fun K hK => ?_) AllReadyH.nil
              have hg := one_new w7.drew (.cells #[.int .i64 dk, .int .i64 dn] 30 (0, 0))
              have hSa : Below W.heap.size W (w7.drew.alloc (.cells #[.int .i64 dk, .int .i64 dn] 30 (0, 0))) := hS.trans (hg.1.mono hS.size)
              go_simp
              refine hK.out _ _ (hSa) (fun _ => ?_)
              clear hK K
              try simp only [Act.put, List.setIfInBounds_toArray, List.set_cons_zero, List.set_cons_succ]
              refine gen_any (S' := fun wv => Below W.heap.size W wv ∧ Below w7.heap.size w7 wv ∧ wv.heap[w7.heap.size]? = some (.cells #[.int .i64 dk, .int .i64 dn] 30 (0, 0))) ⟨hSa, (Below.refl _ _).drew.trans hg.1, hg.2⟩ (fun wv hF => ?_)
              obtain ⟨hS1, hb1, hi1⟩ := hF
              have hq1 : @Qu (mid w6.heap.size w7.heap.size) B wv q t2 M2 := @Qu.later (mid w6.heap.size w7.heap.size) _ _ _ _ _ _ HQ7.out hb1
              clear hg hSa hS
              refine wpAnyH_ready (rs := [13]) (by kernel_rfl) (by simp) ?_
              refine AllReadyH.cons (o := ⟨_, _, _, _, _, _⟩) rfl (fun K hK => ?_) AllReadyH.nil
              go_simp
              refine (@quPut (mid w6.heap.size w7.heap.size) B q t2 M2 _ [(dk, dn)] wv hq1 (it_one hi1) (by simpa using HWf.out) (by simp; omega) (by simp; omega)).mono ?_
              rintro e w8 ⟨rfl, hq8, hk8⟩
              have hk9 : @KeepQ (mid w6.heap.size w7.heap.size) B q w7 w8 := @KeepQ.trans (mid w6.heap.size w7.heap.size) _ _ _ _ _ (@KeepQ.ofBelow (mid w6.heap.size w7.heap.size) _ _ _ _ hb1) hk8
              have hS8 : Below W.heap.size W w8 := hS1.trans ((@KeepQ.below (mid w6.heap.size w7.heap.size) _ _ _ _ hk8 (Nat.le_trans HTw2.out.sz (Nat.le_trans HB7.out.size hb1.size)) HTw2.out.qu.base).mono HWB.out)
              go_wp2_with fail
              refine hK.out _ _ (hS8) (fun _ => ?_)
              clear hK K
              try simp only [Act.put, List.setIfInBounds_toArray, List.set_cons_zero, List.set_cons_succ]
              refine wpAnyH_done (by kernel_rfl) ?_ _
              have HQ8 := Lib.hid hq8
              have HK8 := Lib.hid hk9
              have HBW8 := Lib.hid hS8
              clear hS1 hb1 hi1 hq1 hq8 hk8 hk9 hS8 HQ7
              have HTk := Lib.hid (@quTake_some (mid w6.heap.size w7.heap.size) _ _ _ _ w8 HQ8.out)
              go_wp2_with fail
              refine HTk.out.mono ?_
              rintro e w9 ⟨⟨tv, tb, rfl⟩, ⟨M9, hq9⟩, hk9⟩
              have hbw9 : Below W.heap.size W w9 := HBW8.out.trans ((@KeepQ.below (mid w6.heap.size w7.heap.size) _ _ _ _ hk9 (Nat.le_trans HTw2.out.sz (Nat.le_trans HB7.out.size (Keeps.size HK8.out))) HTw2.out.qu.base).mono HWB.out)
              have HK9 := Lib.hid (@KeepQ.trans (mid w6.heap.size w7.heap.size) _ _ _ _ _ HK8.out hk9)
              have HMv := Lib.hid ((@quMove (mid w6.heap.size w7.heap.size) _ _ _ _ dn 0 w9 hq9 HWf.out).mono fun e w' h => (show (∃ z : Int, e = .returned (.int .i64 z)) ∧ @KeepQ (mid w6.heap.size w7.heap.size) B q w9 w' from ⟨⟨_, h.1⟩, h.2.2⟩))
              obtain ⟨c0, c1, c2⟩ := HCl.out w9 hbw9
              clear HTk hq9 hk9 hbw9 HK8
              go_wp2_with fail
              refine HMv.out.mono ?_
              rintro e w10 ⟨⟨z, rfl⟩, hk10⟩
              have htw10 := HTw2.out.left HQo.out HB7.out (@KeepQ.trans (mid w6.heap.size w7.heap.size) _ _ _ _ _ HK9.out hk10)
              have HTwE := Lib.hid htw10
              clear c0 c1 c2 htw10 hk10 HMv HK9 HQ8 HBW8 HBW7 HB7 HQo HTw2 HB6
              generalize w10 = wE at HTwE ⊢
              have HBE := Lib.hid (show Below W.heap.size W wE from HB5.out.trans (HTwE.out.bel.mono HWB.out))
              obtain ⟨c0, c1, c2⟩ := HCl.out wE HBE.out
              have HSm := Lib.hid (same_any dn wE HTwE.out HWf.out)
              by_cases h5 : k % 5 = 0
              · have h5i : Int.tmod (k : Int) 5 = 0 := by rw [Int.tmod_eq_emod_of_nonneg (by omega)]; omega
                go_wp2_with fail
                refine HSm.out.mono ?_
                rintro e wF ⟨rfl, hbF⟩
                have HTwF := Lib.hid (HTwE.out.later hbF)
                clear hbF
                go_wp2
                go_roundw
                case rel => exact ⟨k + 1, o, t2, M2, by omega, rfl, by go_num, HTwF.out, hM6, ht6⟩
                case measure => simp [intOf]; omega
              · have h5i : ¬ Int.tmod (k : Int) 5 = 0 := by rw [Int.tmod_eq_emod_of_nonneg (by omega)]; omega
                go_wp2
                go_roundw
                case rel => exact ⟨k + 1, o, t2, M2, by omega, rfl, by go_num, HTwE.out, hM6, ht6⟩
                case measure => simp [intOf]; omega
            · have h4 : ¬ ((p : Int) = 4) := by omega
              have h4b : ((p : Int) == 4) = false := by simp; omega
              have h4c : decide ((p : Int) = 4) = false := by simp; omega
              have HTwE := Lib.hid HTw2.out
              clear c0 c1 c2 HTw2 HB6
              generalize w6 = wE at HTwE ⊢
              have HBE := Lib.hid (show Below W.heap.size W wE from HB5.out.trans (HTwE.out.bel.mono HWB.out))
              obtain ⟨c0, c1, c2⟩ := HCl.out wE HBE.out
              have HSm := Lib.hid (same_any dn wE HTwE.out HWf.out)
              by_cases h5 : k % 5 = 0
              · have h5i : Int.tmod (k : Int) 5 = 0 := by rw [Int.tmod_eq_emod_of_nonneg (by omega)]; omega
                go_wp2_with fail
                refine HSm.out.mono ?_
                rintro e wF ⟨rfl, hbF⟩
                have HTwF := Lib.hid (HTwE.out.later hbF)
                clear hbF
                go_wp2
                go_roundw
                case rel => exact ⟨k + 1, q, t2, M2, by omega, rfl, by go_num, HTwF.out, hM6, ht6⟩
                case measure => simp [intOf]; omega
              · have h5i : ¬ Int.tmod (k : Int) 5 = 0 := by rw [Int.tmod_eq_emod_of_nonneg (by omega)]; omega
                go_wp2
                go_roundw
                case rel => exact ⟨k + 1, q, t2, M2, by omega, rfl, by go_num, HTwE.out, hM6, ht6⟩
                case measure => simp [intOf]; omega
          · have hkm : k = m := by omega
            have hk3 : ¬ (k : Int) < m := by omega
            have HSm := Lib.hid (same_any 0 wr htw (kx_small (by omega) (by omega)))
            have HBl := Lib.hid (HB5.out.trans (htw.bel.mono HWB.out))
            clear htw
            go_wp2_with fail
            refine HSm.out.mono ?_
            rintro e w6 ⟨rfl, hb6⟩
            go_wp2_with fail
            refine (awake_any w6).mono ?_
            rintro en w ⟨rfl, hb⟩
            go_wp2
            go_ret
            exact ⟨rfl, HBl.out.trans ((hb6.trans (hb.mono hb6.size)).mono HBl.out.size)⟩
end Go.Proofs.Ytcpcgpanmoellaa
