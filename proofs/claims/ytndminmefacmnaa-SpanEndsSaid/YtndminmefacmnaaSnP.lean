/-
  The document's Gaps; the chapter's example.
-/
import Derived.Test.YtndminmefacmnaaSnO
namespace Go.Proofs.Ytndminmefacmnaa
open Go.RowKit Go.Lib

abbrev sgOk (s : Sg) : Prop := s.to ≤ 9223372036854775807
/-- where the farthest ends: the inner loop. -/
theorem over_ge (l : List Sg) (p : Int) : -1 ≤ overM l p := by
  rcases over_spec p l with ⟨h, -⟩ | ⟨s, -, -, h, h2, h3⟩ <;> omega
set_option maxRecDepth 100000 in
set_option maxHeartbeats 8000000 in
theorem rGaps_go (fr tz : Int) (v : Value) (l : List Sg) (w : World) (h : SgsAt w v l) (hok : ∀ s ∈ l, sgOk s) (hl : l.length ≤ 100000) (htz : tz ≤ 9223372036854775807) (h0 : 0 ≤ fr) (h1 : fr ≤ tz) :
    Calls Try.prog 28 #[.agg #[.int .i64 fr, .int .i64 tz], v] w fun e w' => ∃ v', e = .returned v' ∧ SgOwn w.heap.size w' v' (gapsS ⟨fr, tz⟩ l) ∧ Below w.heap.size w w' := by
  have H := Lib.hid h
  have HOk := Lib.hid hok
  have hr : srB fr tz = true := by simp [srB]; omega
  have HR := Lib.hid (fun u => rRight_any fr tz u)
  rw [hr] at HR
  have HG := Lib.hid (show gapsS ⟨fr, tz⟩ l = canon l tz fr from if_pos (by simp [rightS]; omega))
  have HGl := Lib.hid (canon_len (l := l) (hi := tz) h0)
  obtain ⟨ao, cap, rfl⟩ := h.val
  obtain ⟨len, hlen⟩ : ∃ len, len = l.length := ⟨_, rfl⟩
  have HLe := Lib.hid hlen
  rw [← hlen] at H hl HGl ⊢
  obtain ⟨i0, hi0, hzz0, hz1, hz2⟩ := info_parts Try.infoSpan
  clear h hok hlen hr
  go_enter Try.func28, Try.ntmps28
  go_upto_region 1 with (fail)
  obtain ⟨hb0, hx⟩ := one_new w (.cells #[.int .i64 fr, .int .i64 tz] 23 (0, 0))
  refine gen_world (S := fun u => Below w.heap.size w u ∧ u.heap[w.heap.size]? = some (.cells #[.int .i64 fr, .int .i64 tz] 23 (0, 0))) ⟨hb0, hx⟩ (fun u hu => ?_)
  obtain ⟨hbu, hxu⟩ := hu
  obtain ⟨x0, x1⟩ := two_box hxu
  have HX := Lib.hid hxu
  have HB := Lib.hid hbu
  obtain ⟨X, hX⟩ : ∃ X, X = w.heap.size := ⟨_, rfl⟩
  have HXe := Lib.hid hX
  rw [← hX] at x0 x1 HX ⊢
  clear hb0 hx hbu hxu hX
  go_wp2_with fail
  refine (HR.out _).mono ?_
  rintro e u2 ⟨rfl, hb⟩
  have HX2 := Lib.hid ((hb.block _ (lt_of_block HX.out)).trans HX.out)
  have HB2 := Lib.hid (HB.out.trans (hb.mono HB.out.size))
  clear x0 x1 hb HX HB HR
  obtain ⟨x0, x1⟩ := two_box HX2.out
  go_wp2
  clear x0 x1
  go_loopw [5, 6] (fun o a wr => ∃ (p : Int) (out : List Sg) (n : Nat), a = .int .i64 p ∧ fr ≤ p ∧ p ≤ 9223372036854775807 ∧ Hid (n = out.length) ∧ Hid (out ++ canon l tz p = canon l tz fr) ∧ Hid (wr.ownsRow (X + 1) 23 2 o n (out.flatMap sgc)) ∧ Hid (wr.heap[X]? = some (.cells #[.int .i64 fr, .int .i64 tz] 23 (0, 0))) ∧ Hid (Below w.heap.size w wr)) (fun _ a _ => (tz - intOf a).toNat)
  case atStart => exact ⟨fr, [], 0, rfl, by omega, by omega, Lib.hid rfl, Lib.hid (by simp), Lib.hid (World.ownsRow_nil _ _ _ _), HX2, HB2⟩
  case round =>
    clear HX2 HB2
    obtain ⟨p, out, n, rfl, hp0, hpm, HN, HC, HO, HX, HB⟩ := hrel
    obtain ⟨va, vc, rfl⟩ := own_val HO.out
    have hnl : n ≤ len + 1 := by
      have h := congrArg List.length HC.out
      rw [List.length_append] at h
      have := HN.out
      have := HGl.out
      omega
    obtain ⟨x0, x1⟩ := two_box HX.out
    by_cases hlt : p < tz
    · go_wp2
      clear x0 x1
      go_loopw [7, 8] (fun o i wr => ∃ (k : Nat) (z : Int), k ≤ len ∧ i = .int .i64 k ∧ o = .int .i64 z ∧ -1 ≤ z ∧ z ≤ 9223372036854775807 ∧ Hid (z = overM (l.take k) p) ∧ Hid (wr.ownsRow (X + 1) 23 2 (.slice va n vc) n (out.flatMap sgc)) ∧ Hid (wr.heap[X]? = some (.cells #[.int .i64 fr, .int .i64 tz] 23 (0, 0))) ∧ Hid (Below w.heap.size w wr)) (fun _ i _ => len - (intOf i).toNat)
      case atStart => exact ⟨0, -1, by omega, rfl, rfl, by omega, by omega, Lib.hid rfl, HO, HX, HB⟩
      case round =>
        clear HO HX HB
        obtain ⟨k, z, hk, rfl, rfl, hz1', hz2', HZ, HO, HX, HB⟩ := hrel
        by_cases hkl : k < len
        · have hkl' : (k : Int) < len := by omega
          have hkL : k < l.length := by rw [← HLe.out]; exact hkl
          obtain ⟨tb, toff, rfl, -, c0, c1⟩ := (H.out.later HB.out).cells.2.2.2.2 k hkL
          have hsc := over_succ hkL p
          have hokk := HOk.out _ (List.getElem_mem hkL)
          obtain ⟨⟨sf, st⟩, hs⟩ : ∃ s, s = l[k] := ⟨_, rfl⟩
          rw [← hs] at c0 c1 hsc hokk
          simp only at c0 c1
          rw [← HZ.out] at hsc
          have HSc := Lib.hid hsc
          have hst : st ≤ 9223372036854775807 := hokk
          have HH := Lib.hid (fun u => rHas_any sf st p u)
          rw [shB_eq] at HH
          have HCc := Lib.hid (show ∀ u, Below wr.heap.size wr u → u.cell? ⟨tb, toff + k * 2, none⟩ = some (.int .i64 sf) ∧ u.cell? ⟨tb, toff + k * 2 + 1, none⟩ = some (.int .i64 st) from fun u hu => ⟨cell_later hu c0, cell_later hu c1⟩)
          clear hs hsc hokk
          cases hh : hasS ⟨sf, st⟩ p
          · rw [hh] at HH
            have HZ2 := Lib.hid (show z = overM (l.take (k + 1)) p from by rw [HSc.out, hh]; simp)
            clear hh
            go_wp2_with fail
            refine (HH.out _).mono ?_
            rintro e u3 ⟨rfl, hb⟩
            have HO3 := Lib.hid ((Keeps.ofNew hb (fun _ => False)).row HO.out (fun _ _ h => h))
            have HX3 := Lib.hid ((hb.block _ (lt_of_block HX.out)).trans HX.out)
            have HB3 := Lib.hid (HB.out.trans (hb.mono HB.out.size))
            clear hb c0 c1
            go_wp2
            go_roundw
            case rel => exact ⟨k + 1, z, by omega, by go_num, rfl, hz1', hz2', HZ2, HO3, HX3, HB3⟩
            case measure => simp [intOf]; omega
          · rw [hh] at HH
            have HZ2 := Lib.hid (show max z st = overM (l.take (k + 1)) p from by rw [HSc.out, hh]; simp)
            clear hh
            go_wp2_with fail
            refine (HH.out _).mono ?_
            rintro e u3 ⟨rfl, hb⟩
            have HO3 := Lib.hid ((Keeps.ofNew hb (fun _ => False)).row HO.out (fun _ _ h => h))
            have HX3 := Lib.hid ((hb.block _ (lt_of_block HX.out)).trans HX.out)
            have HB3 := Lib.hid (HB.out.trans (hb.mono HB.out.size))
            clear c0 c1
            obtain ⟨c0, c1⟩ := HCc.out u3 hb
            have hmx := max_if' z st
            clear hb
            go_wp2
            go_roundw
            case rel => exact ⟨k + 1, max z st, by omega, by go_num, by first | rfl | (simp only [max_if']), by omega, by omega, HZ2, HO3, HX3, HB3⟩
            case measure => simp [intOf]; omega
        · have hkl' : ¬ (k : Int) < len := by omega
          have hze : z = overM l p := by
            have h := HZ.out
            rw [List.take_of_length_le (by rw [← HLe.out]; omega)] at h
            exact h
          by_cases hz0 : 0 ≤ z
          · have ht := turn_over (l := l) (hi := tz) (p := p) (by rw [← hze]; exact hz0)
            rw [← hze] at ht
            obtain ⟨ht1, ht2⟩ := ht
            have HC2 := Lib.hid (show out ++ canon l tz z = canon l tz fr from by rw [← ht1]; exact HC.out)
            clear hze ht1
            go_wp2
            go_roundw
            case rel => exact ⟨z, out, n, rfl, by omega, by omega, HN, HC2, HO, HX, HB⟩
            case measure => simp [intOf]; omega
          · have ht := turn_gap (l := l) hlt (by rw [← hze]; omega)
            obtain ⟨ht1, ht2, ht3⟩ := ht
            have HT := Lib.hid (And.intro ht1 (And.intro ht2 ht3))
            clear hze ht1 ht2 ht3 HZ
            obtain ⟨x0, x1⟩ := two_box HX.out
            go_wp2
            clear x0 x1
            go_loopw [9, 10] (fun o i wr => ∃ (k : Nat) (z : Int), k ≤ len ∧ i = .int .i64 k ∧ o = .int .i64 z ∧ p < z ∧ z ≤ tz ∧ Hid (z = endM (l.take k) tz p) ∧ Hid (wr.ownsRow (X + 1) 23 2 (.slice va n vc) n (out.flatMap sgc)) ∧ Hid (wr.heap[X]? = some (.cells #[.int .i64 fr, .int .i64 tz] 23 (0, 0))) ∧ Hid (Below w.heap.size w wr)) (fun _ i _ => len - (intOf i).toNat)
            case atStart => exact ⟨0, tz, by omega, rfl, rfl, by omega, by omega, Lib.hid rfl, HO, HX, HB⟩
            case round =>
              clear HO HX HB
              obtain ⟨k, z, hk, rfl, rfl, hz1', hz2', HZ, HO, HX, HB⟩ := hrel
              by_cases hkl : k < len
              · have hkl' : (k : Int) < len := by omega
                have hkL : k < l.length := by rw [← HLe.out]; exact hkl
                obtain ⟨tb, toff, rfl, -, c0, c1⟩ := (H.out.later HB.out).cells.2.2.2.2 k hkL
                have hsc := end_succ hkL tz p
                have hokk := HOk.out _ (List.getElem_mem hkL)
                obtain ⟨⟨sf, st⟩, hs⟩ : ∃ s, s = l[k] := ⟨_, rfl⟩
                rw [← hs] at c0 c1 hsc hokk
                simp only at c0 c1 hsc
                rw [← HZ.out] at hsc
                have HSc := Lib.hid hsc
                have HH := Lib.hid (fun u => rLen_any sf st u hokk)
                have HCc := Lib.hid (show ∀ u, Below wr.heap.size wr u → u.cell? ⟨tb, toff + k * 2, none⟩ = some (.int .i64 sf) ∧ u.cell? ⟨tb, toff + k * 2 + 1, none⟩ = some (.int .i64 st) from fun u hu => ⟨cell_later hu c0, cell_later hu c1⟩)
                clear hs hsc hokk
                generalize lenS ⟨sf, st⟩ = ln at HSc HH
                by_cases hln : 0 < ln
                · by_cases hsf : p < sf
                  · have HZ2 := Lib.hid (show min z sf = endM (l.take (k + 1)) tz p from by rw [HSc.out, if_pos ⟨hln, hsf⟩])
                    go_wp2_with fail
                    refine (HH.out _).mono ?_
                    rintro e u3 ⟨rfl, hb⟩
                    have HO3 := Lib.hid ((Keeps.ofNew hb (fun _ => False)).row HO.out (fun _ _ h => h))
                    have HX3 := Lib.hid ((hb.block _ (lt_of_block HX.out)).trans HX.out)
                    have HB3 := Lib.hid (HB.out.trans (hb.mono HB.out.size))
                    clear c0 c1
                    obtain ⟨c0, c1⟩ := HCc.out u3 hb
                    clear hb
                    go_wp2
                    go_roundw
                    case rel => exact ⟨k + 1, min z sf, by omega, by go_num, by first | rfl | (simp only [min_if']), by omega, by omega, HZ2, HO3, HX3, HB3⟩
                    case measure => simp [intOf]; omega
                  · have HZ2 := Lib.hid (show z = endM (l.take (k + 1)) tz p from by rw [HSc.out, if_neg (fun h => hsf h.2)])
                    go_wp2_with fail
                    refine (HH.out _).mono ?_
                    rintro e u3 ⟨rfl, hb⟩
                    have HO3 := Lib.hid ((Keeps.ofNew hb (fun _ => False)).row HO.out (fun _ _ h => h))
                    have HX3 := Lib.hid ((hb.block _ (lt_of_block HX.out)).trans HX.out)
                    have HB3 := Lib.hid (HB.out.trans (hb.mono HB.out.size))
                    clear c0 c1
                    obtain ⟨c0, c1⟩ := HCc.out u3 hb
                    clear hb
                    go_wp2
                    go_roundw
                    case rel => exact ⟨k + 1, z, by omega, by go_num, rfl, hz1', hz2', HZ2, HO3, HX3, HB3⟩
                    case measure => simp [intOf]; omega
                · have HZ2 := Lib.hid (show z = endM (l.take (k + 1)) tz p from by rw [HSc.out, if_neg (fun h => hln h.1)])
                  go_wp2_with fail
                  refine (HH.out _).mono ?_
                  rintro e u3 ⟨rfl, hb⟩
                  have HO3 := Lib.hid ((Keeps.ofNew hb (fun _ => False)).row HO.out (fun _ _ h => h))
                  have HX3 := Lib.hid ((hb.block _ (lt_of_block HX.out)).trans HX.out)
                  have HB3 := Lib.hid (HB.out.trans (hb.mono HB.out.size))
                  clear c0 c1
                  obtain ⟨c0, c1⟩ := HCc.out u3 hb
                  clear hb
                  go_wp2
                  go_roundw
                  case rel => exact ⟨k + 1, z, by omega, by go_num, rfl, hz1', hz2', HZ2, HO3, HX3, HB3⟩
                  case measure => simp [intOf]; omega
              · have hkl' : ¬ (k : Int) < len := by omega
                have hze : z = endM l tz p := by
                  have h := HZ.out
                  rw [List.take_of_length_le (by rw [← HLe.out]; omega)] at h
                  exact h
                have HC2 := Lib.hid (show (out ++ [(⟨p, z⟩ : Sg)]) ++ canon l tz z = canon l tz fr from by
                  have h := HC.out
                  rw [HT.out.1, ← hze] at h
                  rw [← h]
                  simp)
                clear hze HZ
                go_wp2_with (at_builtin; refine wpList_append_own _ rfl (.tmp 72) (.tmp 76) 24 rfl (X + 1) 23 i0 _ 2 16 Try.underlying24 hi0 hzz0 hz1 hz2 rfl (by decide) _ n _ rfl (HO.out.alloc _) ⟨wr.heap.size, 0, none⟩ 1 1 [.int .i64 p, .int .i64 z] rfl rfl (World.news_of_block (cs := #[.int .i64 p, .int .i64 z]) (t := 23) (fr := (0, 0)) (heap_alloc_new wr _)) (by simp [Value.oneCell']) (by unfold maxLen; omega) (by omega) (by have := lt_of_block HX.out; simp; omega) ?_; intro v' w1 hown' hgrow _)
                have HB6 := Lib.hid ((HB.out.alloc HB.out.size _).grown hgrow (by have := HB.out.size; simp; omega) (fun r hr => by have := (HO.out.lt r hr).1; have := HXe.out; omega))
                have HX6 := Lib.hid (show w1.heap[X]? = some (.cells #[.int .i64 fr, .int .i64 tz] 23 (0, 0)) from by
                  refine (hgrow.block X (by have := lt_of_block HX.out; simp; omega) (fun e => ?_)).trans ((Below.heap_alloc _ _ _ (lt_of_block HX.out)).trans HX.out)
                  have := (HO.out.lt X e.symm).1
                  omega)
                have HO6 := Lib.hid (show w1.ownsRow (X + 1) 23 2 v' (n + 1) ((out ++ [(⟨p, z⟩ : Sg)]).flatMap sgc) from by
                  rw [List.flatMap_append]
                  simpa [sgc] using hown')
                clear hown' hgrow HB HO HX HC
                go_wp2
                go_roundw
                case rel => exact ⟨z, _, n + 1, rfl, by omega, by omega, Lib.hid (by simp [HN.out]), HC2, HO6, HX6, HB6⟩
                case measure => simp [intOf]; omega
    · have HF := Lib.hid (show out = gapsS ⟨fr, tz⟩ l from by
        have h := HC.out
        rw [canon_end (by omega), List.append_nil] at h
        rw [h, HG.out])
      go_wp2
      go_ret
      refine ⟨_, rfl, ?_, HB.out⟩
      have h := HO.out
      have h2 := HN.out
      rw [HF.out] at h h2
      unfold SgOwn
      rw [← h2]
      exact ownsRow_base h (by have := HXe.out; omega)
/-- **the document's Gaps.** -/
theorem rGaps_any (fr tz : Int) (v : Value) (l : List Sg) (w : World) (h : SgsAt w v l) (hok : ∀ s ∈ l, sgOk s) (hl : l.length ≤ 100000) (htz : tz ≤ 9223372036854775807) :
    Calls Try.prog 28 #[.agg #[.int .i64 fr, .int .i64 tz], v] w fun e w' => ∃ v', e = .returned v' ∧ SgOwn w.heap.size w' v' (gapsS ⟨fr, tz⟩ l) ∧ Below w.heap.size w w' := by
  cases hr : srB fr tz with
  | true =>
    have h2 : 0 ≤ fr ∧ fr ≤ tz := by simpa [srB] using hr
    exact rGaps_go fr tz v l w h hok hl htz h2.1 h2.2
  | false =>
    have HR := Lib.hid (fun u => rRight_any fr tz u)
    have HN := Lib.hid (show gapsS ⟨fr, tz⟩ l = [] from if_neg (by rw [← srB_eq, hr]; simp))
    rw [hr] at HR
    clear h hok hr
    go_enter Try.func28, Try.ntmps28
    go_upto_region 1 with (fail)
    obtain ⟨hb0, hx⟩ := one_new w (.cells #[.int .i64 fr, .int .i64 tz] 23 (0, 0))
    refine gen_world (S := fun u => Below w.heap.size w u ∧ u.heap[w.heap.size]? = some (.cells #[.int .i64 fr, .int .i64 tz] 23 (0, 0))) ⟨hb0, hx⟩ (fun u hu => ?_)
    obtain ⟨hbu, hxu⟩ := hu
    obtain ⟨x0, x1⟩ := two_box hxu
    have HB := Lib.hid hbu
    clear hb0 hx hbu hxu
    go_wp2_with fail
    refine (HR.out _).mono ?_
    rintro e u2 ⟨rfl, hb⟩
    have HB2 := Lib.hid (HB.out.trans (hb.mono HB.out.size))
    clear x0 x1 hb
    go_wp2
    go_ret
    exact ⟨_, rfl, by rw [HN.out]; exact World.ownsRow_nil _ _ _ _, HB2.out⟩
theorem new_row {α : Type} {f : α → List Value} {C : Nat} (hf : ∀ x, (f x).length = C) {w : World} {g : Nat} {e : TypeId} {cur : Array Value} {l : List α} (hg : w.heap[g]? = some (.cells cur e (0, 0))) (hl : l.length ≤ 1000000) (hc : cur.toList = l.flatMap f) :
    RowsAt w C (.slice (some ⟨g, 0, none⟩) l.length l.length) (l.map f) := by
  have h1 : cur.size = l.length * C := by
    have := congrArg List.length hc
    rw [flat_len hf] at this
    simpa using this
  refine own_rows hf rfl (own_shut (base := 0) (by rw [flat_len hf]) (Nat.zero_le _) hg (Nat.le_refl _) (by unfold maxLen; omega) h1 ?_)
  rw [List.take_of_length_le (by simp [h1]), hc]
set_option maxHeartbeats 1000000 in
theorem awake_any (w : World) : Calls Try.prog 8 #[] w fun e w' => e = .returned (.bool true) ∧ Below w.heap.size w w' := by
  have HG := Lib.hid (fun (u : World) (v : Value) (h : SgsAt u v [⟨2, 4⟩, ⟨3, 6⟩]) => gaps_any 0 9 v [⟨2, 4⟩, ⟨3, 6⟩] u h (by simp) (by omega))
  rw [gaps_ex] at HG
  go_enter Try.func8, Try.ntmps8
  go_wp2_with fail
  obtain ⟨hb1, hg1⟩ := one_new w (.cells #[.int .i64 2, .int .i64 4, .int .i64 3, .int .i64 6] 23 (0, 0))
  have HB1 := Lib.hid hb1
  refine (HG.out _ _ (new_row (l := [(⟨2, 4⟩ : Sg), ⟨3, 6⟩]) sgc_len hg1 (by simp) rfl)).mono ?_
  rintro e w2 ⟨v', rfl, ho, hb⟩
  have HO := Lib.hid ho
  have HB2 := Lib.hid (HB1.out.trans (hb.mono HB1.out.size))
  clear hb1 hg1 ho hb
  go_wp2_with fail
  obtain ⟨hb3, hg3⟩ := one_new w2 (.cells #[.int .i64 0, .int .i64 2, .int .i64 6, .int .i64 9] 23 (0, 0))
  refine (same_any _ _ [(⟨0, 2⟩ : Sg), ⟨6, 9⟩] _ (HO.out.later hb3).at (new_row (l := [(⟨0, 2⟩ : Sg), ⟨6, 9⟩]) sgc_len hg3 (by simp) rfl)).mono ?_
  rintro e w4 ⟨rfl, hb⟩
  have HB4 := Lib.hid ((HB2.out.trans (hb3.mono HB2.out.size)).trans (hb.mono (Nat.le_trans HB2.out.size hb3.size)))
  clear hb3 hg3 hb
  go_wp2
  go_ret
  exact ⟨rfl, HB4.out⟩
end Go.Proofs.Ytndminmefacmnaa
