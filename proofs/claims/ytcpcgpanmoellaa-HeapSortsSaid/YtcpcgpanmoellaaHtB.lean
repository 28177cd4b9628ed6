/-
  Things come sorted: the walk.
-/
import Derived.Test.YtcpcgpanmoellaaHtA
namespace Go.Proofs.Ytcpcgpanmoellaa
open Go.RowKit Go.Lib Go.Shelf
attribute [local go_sem] Oper.semAt_some

theorem Try.infoItem : (Try.prog.info? 30).map (fun i => (i.zero, i.size, i.bytes)) = some (some (.agg #[.int .i64 0, .int .i64 0]), 2, 16) := by kernel_rfl
/-- while things are laid. -/
structure SoA (w : World) (ks : List Int) (k : Nat) (v : Value) (wr : World) : Prop where
  row : wr.ownsRow w.heap.size 30 2 v k ((itM ks k).flatMap ite)
  bel : Below w.heap.size w wr
/-- an append to a boxed row of Items leaves things as they lay. -/
theorem kpE_append {X : Nat → Prop} {W w1 : World} {B base n : Nat} {v v' : Value} {xs : List Value} {o : Obj} (hv : Boxed W B 40 v) (hrow : W.ownsRow base 30 2 v n xs) (hg : (W.alloc o).grownBy w1 v.ownBlock) : KpE X W (w1.setCell ⟨B, 0, none⟩ v') := by
  refine ⟨?_, fun k cs fr _ ho => ?_⟩
  · have := hg.size
    simp [World.setCell] at this ⊢
    omega
  · have h1 := block_grown ho (by decide) hrow hg
    rw [Below.heap_setCell _ _ _ _ (fun e => by
      have e' : k = B := e
      rw [e', show W.heap[B]? = _ from hv] at ho
      simp at ho)]
    exact h1
/-- while things are taken. -/
structure SoC (w : World) (ks : List Int) (n B1 q Bo D : Nat) (vA v3 : Value) (S : List En) (k : Nat) (wr : World) : Prop where
  ex : ∃ M, Qu B1 wr q n M ∧ SortP ks n S k M
  box : Boxed wr Bo 40 vA
  rowA : wr.ownsRow Bo 30 2 vA n (S.flatMap it2)
  rowL : wr.ownsRow w.heap.size 30 2 v3 n ((itM ks n).flatMap ite)
  dfr : wr.heap[D]? = some (.deferred (some []))
  bel : Below w.heap.size w wr
  B1 : w.heap.size ≤ B1
theorem SoC.later {w : World} {ks : List Int} {n B1 q Bo D : Nat} {vA v3 : Value} {S : List En} {k : Nat} {wr w1 : World} (h : SoC w ks n B1 q Bo D vA v3 S k wr) (hb : Below wr.heap.size wr w1) : SoC w ks n B1 q Bo D vA v3 S k w1 := by
  obtain ⟨M, h1, h2⟩ := h.ex
  have hk : Keeps (fun _ => False) wr w1 := Keeps.ofNew hb _
  exact ⟨⟨M, h1.later hb, h2⟩, (hb.block _ (lt_of_block h.box)).trans h.box, row_kept h.rowA hk (fun _ _ _ h => h), row_kept h.rowL hk (fun _ _ _ h => h), (hb.block _ (lt_of_block h.dfr)).trans h.dfr, h.bel.trans (hb.mono h.bel.size), h.B1⟩
theorem SoC.next {w : World} {ks : List Int} {n B1 q Bo D : Nat} {vA v3 : Value} {S M : List En} {k : Nat} {wr w1 : World} (h : SoC w ks n B1 q Bo D vA v3 S k wr) (h2 : SortP ks n S (k + 1) M) (hq : Qu B1 w1 q n M) (hk : KeepQ B1 q wr w1) : SoC w ks n B1 q Bo D vA v3 S (k + 1) w1 := by
  obtain ⟨M0, h0, -⟩ := h.ex
  obtain ⟨cq, hcq⟩ := h0.qblk
  have hit : ∀ j cs, wr.heap[j]? = some (.cells cs 30 (0, 0)) → ¬ (FootH B1 wr j ∨ j = q) := fun j cs hj hS => by
    rcases hS with hS | hS
    · have := hS.2
      rw [hj] at this
      simp at this
    · rw [hS, hcq] at hj
      simp at hj
  refine ⟨⟨M, hq, h2⟩, hk.cells h.box (by decide) (fun e => by have h5 : wr.heap[Bo]? = _ := h.box; rw [e, hcq] at h5; simp at h5), row_kept h.rowA hk hit, row_kept h.rowL hk hit, Keeps.obj hk h.dfr (fun hS => ?_), h.bel.trans ((hk.below (Nat.le_of_lt (Nat.lt_of_le_of_lt h0.base h0.lt)) h0.base).mono h.B1), h.B1⟩
  rcases hS with hS | hS
  · have := hS.2
    rw [h.dfr] at this
    exact this
  · have h5 := h.dfr
    rw [hS, hcq] at h5
    simp at h5
set_option maxRecDepth 100000 in
set_option maxHeartbeats 8000000 in
theorem sorts_main (W : World) (v0 : Value) (ks : List Int) (hv : CellsAt W v0 (iv ks)) :
    Calls Try.prog 4 #[v0] W fun en w' => en = .returned (.bool true) ∧ Below W.heap.size W w' := by
  have HA := Lib.hid (awake_any W)
  obtain ⟨ao, b, off, cap, rfl, hlc, hm, -, hao, -, hc⟩ := hv
  simp only [List.length_map] at hlc hao hc ⊢
  unfold maxLen at hm
  have hc' : ∀ k, k < ks.length → W.cell? ⟨b, off + k, none⟩ = some (.int .i64 (ks.getD k 0)) := fun k hk => by rw [hc k hk]; simp [hk]
  have hbw : 0 < ks.length → b < W.heap.size := fun h => World.block_lt_of_cell? (a := ⟨b, _, none⟩) _ (hc' 0 h)
  have HC := Lib.hid hc'
  have HBW := Lib.hid hbw
  have HAo := Lib.hid hao
  obtain ⟨n, hn⟩ : ∃ n, n = ks.length := ⟨_, rfl⟩
  have HN := Lib.hid hn
  rw [← hn] at hlc ⊢
  clear hao hc hc' hbw hn
  refine (callsIn_wide (n := 9)).1 ?_
  refine callsIn_of_wp_marks Try.func4 rfl trivial ?_ rfl
  simp only [Try.ntmps4, List.size_toArray, List.length_cons, List.length_nil, Nat.reduceAdd, Nat.reduceSub, Array.replicate_succ, Array.replicate_zero, List.push_toArray, List.append_toArray, List.nil_append, List.cons_append]
  refine wpIn_wide.2 (wp_mono (Q := noPanic (bodyPostM Fence.wide 9 Try.prog Try.f4 fun e w' => e = .returned (.bool true) ∧ Below W.heap.size W w')) ?_ (fun e a w h => noPanic_of h))
  go_wp2_with fail
  refine HA.out.mono ?_
  rintro en w ⟨rfl, hb⟩
  have HB := Lib.hid hb
  clear hb
  by_cases hl : 300 < n
  · have hl2 : (n : Int) > 300 := by omega
    go_wp2
    exact ⟨_, results_tmp rfl _ _ _, rfl, HB.out⟩
  have hl2 : ¬ (n : Int) > 300 := by omega
  have hl3 : n ≤ 300 := by omega
  obtain ⟨i0, hi0, hz0, hz1, hz2⟩ := info_parts Try.infoItem
  go_wp2
  go_loopw [3, 4] (fun v i wr => ∃ k : Nat, k ≤ n ∧ i = .int .i64 k ∧ SoA w ks k v wr) (fun _ i _ => n - (intOf i).toNat)
  case atStart => exact ⟨0, Nat.zero_le _, rfl, World.ownsRow_nil _ _ _ _, Below.refl _ _⟩
  case round =>
    obtain ⟨k, hk, rfl, hs⟩ := hrel
    by_cases hlt : k < n
    · have hlt2 : (k : Int) < n := by omega
      obtain rfl := HAo.out (by rw [← HN.out]; omega)
      have hcell := (hs.bel.cell (p := ⟨b, off + k, none⟩) (Nat.lt_of_lt_of_le (HBW.out (by rw [← HN.out]; omega)) HB.out.size)).trans ((HB.out.cell (p := ⟨b, off + k, none⟩) (HBW.out (by rw [← HN.out]; omega))).trans (HC.out k (by rw [← HN.out]; exact hlt)))
      obtain ⟨key, hkey⟩ : ∃ z, z = ks.getD k 0 := ⟨_, rfl⟩
      rw [← hkey] at hcell
      have HKey := Lib.hid hkey
      have HS := Lib.hid hs
      have hrow := hs.row
      have hsz := hs.bel.size
      clear hkey hs
      go_wp2_with (at_builtin; refine wpList_append_own _ rfl (.tmp 25) (.tmp 32) 40 rfl w.heap.size 30 i0 _ 2 16 Try.underlying40 hi0 hz0 hz1 hz2 rfl (by decide) _ k _ rfl (hrow.alloc _) ⟨wr.heap.size, 0, none⟩ 1 1 [.int .i64 key, .int .i64 k] rfl rfl (World.news_of_block (cs := #[.int .i64 key, .int .i64 k]) (t := 30) (fr := (0, 0)) (heap_alloc_new wr _)) (by simp [Value.oneCell']) (by unfold maxLen; omega) (by omega) (by simp; omega) ?_; intro v' w1 hown' hgrow _)
      have HS2 := Lib.hid (show SoA w ks (k + 1) v' w1 from ⟨by rw [itM_succ, List.flatMap_append, ← HKey.out]; exact hown', HS.out.bel.trans (((Below.refl w.heap.size wr).alloc (by omega) _).grown hgrow (by simp; omega) (fun r hr => (HS.out.row.lt r hr).1))⟩)
      clear hown' hgrow hrow
      go_wp2
      go_roundw
      case rel => exact ⟨k + 1, by omega, by go_num, HS2.out⟩
      case measure => simp [intOf]; omega
    · have hkn : k = n := by omega
      have hk3 : ¬ (k : Int) < n := by omega
      rw [hkn] at hs
      have HIt := Lib.hid (own_it (by rw [itM_len]) hs.row)
      have HRow := Lib.hid hs.row
      have HBwr := Lib.hid hs.bel
      have HB1 := Lib.hid (HB.out.trans (hs.bel.mono HB.out.size))
      have hsz1 := hs.bel.size
      obtain ⟨ao3, cap3, rfl⟩ := own_val hs.row
      clear hs hkn hlt hk
      have hnew := quNew (base := wr.heap.size) (l := itM ks n) wr (Nat.le_refl _) (Nat.zero_le _) HIt.out (fun x hx => by
        obtain ⟨i, hi, rfl⟩ := List.mem_map.1 hx
        have := List.mem_range.1 hi
        exact kx_small (by omega) (by omega)) (by rw [itM_len]; omega) (by rw [putQ_itM])
      rw [putQ_itM] at hnew
      have HNew := Lib.hid hnew
      clear hnew
      go_wp2_with fail
      refine HNew.out.mono ?_
      rintro en w2 ⟨q, rfl, -, hq, hb2⟩
      have HQ := Lib.hid hq
      have HB2 := Lib.hid hb2
      have hql := quLen w2 hq
      rw [mkM_len] at hql
      have HQl := Lib.hid hql
      clear hq hb2 hql
      go_wp2_with fail
      refine HQl.out.mono ?_
      rintro en w3 ⟨rfl, rfl⟩
      go_upto_region 14 with (fail)
      refine gen_world (S := fun u => Below w2.heap.size w2 u ∧ Boxed u w2.heap.size 40 (.slice none 0 0)) (one_new w2 _) (fun u hu => ?_)
      obtain ⟨hbu, hbx⟩ := hu
      have hal := (Below.refl u.heap.size u).alloc (Nat.le_refl _) (.cells #[.pointer (some ⟨q, 0, none⟩)] 24)
      have hsu := hbu.size
      have hlu := hbx.lt
      have HBu := Lib.hid (hbu.trans (hal.mono hbu.size))
      have HBx := Lib.hid (hbx.alloc (.cells #[.pointer (some ⟨q, 0, none⟩)] 24))
      have HBq := Lib.hid (heap_alloc_new u (.cells #[.pointer (some ⟨q, 0, none⟩)] 24))
      clear hbu hbx hal
      go_wp2_with fail
      refine (qAll_any _ _).mono ?_
      rintro e w9 ⟨rfl, rfl⟩
      go_wp2_with fail
      obtain ⟨Bq, hBqE⟩ : ∃ Bq, Bq = u.heap.size := ⟨_, rfl⟩
      rw [← hBqE] at HBq ⊢
      obtain ⟨Bo, hBoE⟩ : ∃ Bo, Bo = w2.heap.size := ⟨_, rfl⟩
      rw [← hBoE] at HBu HBx hsu hlu ⊢
      have HBoE := Lib.hid hBoE
      clear hBqE hBoE
      generalize u.alloc (.cells #[.pointer (some ⟨q, 0, none⟩)] 24) = w9 at HBu HBx HBq ⊢
      have hs9 := HBu.out.size
      have hl9 := HBx.out.lt
      refine (wpIn_wide (n := 9)).1 ?_
      refine range_box (by omega) (gf := 31) (lb := #[.pointer (some ⟨Bq, 0, none⟩)]) rfl (enters_of Try.func31 (by kernel_rfl) rfl) itv (fun x => #[.int .i64 x.key, .int .i64 x.name]) 30 8
        (qall_stops 8 (by omega) Bq wr.heap.size q n (mkM ks n) (fun _ => False) w9 24 (fun _ h => h.elim) HBq.out (HQ.out.later (by rw [← HBoE.out]; exact HBu.out)))
        KpE.trans kpE_b
        (fun pre W' => (∃ v, Boxed W' Bo 40 v ∧ W'.ownsRow Bo 30 2 v pre.length (pre.flatMap it2) ∧ True) ∧ Below Bo w2 W')
        (fun _ _ _ => False)
        (OwnFrom.and (Own.from (holdsRow_own Bo Bo 40 30 2 (fun pre : List En => pre.length) (fun pre => pre.flatMap it2) (fun _ _ => True)) _) (ownFrom_below (by rw [HBoE.out]; exact Nat.le_refl _) (by omega)))
        (fun _ _ _ _ _ hs _ _ => hs.elim)
        ⟨⟨_, HBx.out, World.ownsRow_nil _ _ _ _, trivial⟩, HBu.out⟩ ?assign ?body ?done ?stop
      case assign =>
        rintro l pre x W' K ⟨⟨v, hv, hrow, -⟩, hB⟩ hK
        simp only [List.setIfInBounds_toArray, List.set_cons_zero, List.set_cons_succ] at hK ⊢
        have hBs : Bo ≤ W'.heap.size := Nat.le_of_lt hv.lt
        gi_wp2
        exact hK _ W'.heap.size ((KeepsOthers.alloc _ _).from _) (KpE.ofBelow ((Below.refl _ _).alloc (Nat.le_refl _) _)) ⟨⟨v, hv.alloc _, hrow.alloc _, trivial⟩, hB.alloc hBs _⟩ (heap_alloc_new W' _)
      case body =>
        rintro l pre x Bx W' hl ⟨⟨v, hv, hrow, -⟩, hB⟩ hx hlen
        simp only [List.setIfInBounds_toArray, List.set_cons_zero, List.set_cons_succ]
        rw [mkM_len] at hlen
        have hBs : Bo ≤ W'.heap.size := Nat.le_of_lt hv.lt
        have hc := hv.cell
        obtain ⟨y0, y1⟩ := two_box hx
        gi_wp2_with (gi_at_builtin; refine wpListIn_append_own _ rfl _ _ 40 rfl Bo 30 i0 _ 2 16 Try.underlying40 hi0 hz0 hz1 hz2 rfl (by decide) _ _ _ rfl (hrow.alloc _) ⟨W'.heap.size, 0, none⟩ 1 1 [.int .i64 x.key, .int .i64 x.name] rfl rfl (World.news_of_block (cs := #[.int .i64 x.key, .int .i64 x.name]) (t := 30) (fr := (0, 0)) (heap_alloc_new W' _)) (by simp [Value.oneCell']) (by unfold maxLen; omega) (by omega) (by simp; omega) ?_; intro v' w1 hown' hgrow _; obtain ⟨g', cap', rfl⟩ := own_shape hown' (by omega); obtain ⟨hv1, hv2, hr2, hk2, hb2⟩ := hv.appended (by decide) hrow hBs (Nat.le_refl _) hown' hgrow; have hc1 := hv1.cell; have hf1 := hv1.frozen; have hkp := kpE_append (X := fun _ => False) (v' := .slice (some ⟨g', 0, none⟩) (pre.length + 1) cap') hv hrow hgrow)
        exact ⟨hk2.from _, hkp, ⟨_, hv2, by rw [List.length_append, List.flatMap_append]; simpa [it2] using hr2, trivial⟩, hB.trans hb2⟩
      case done =>
        rintro D S W' hD ⟨hp, hsrt⟩ ⟨⟨vA, hv, hrow, -⟩, hB⟩ hKD
        have hlen : S.length = n := by rw [hp.length_eq, mkM_len]
        have hD0 : Hid (w.heap.size ≤ D) := Lib.hid (by have := HBu.out.size; have := HB2.out.size; omega)
        have hsoc : SoC w ks n wr.heap.size q Bo D vA (.slice ao3 n cap3) S 0 W' := by
          have hBw : Below w2.heap.size w2 W' := by rw [← HBoE.out]; exact hB
          have h12 : Below wr.heap.size wr W' := HB2.out.trans (hBw.mono HB2.out.size)
          exact ⟨⟨_, HQ.out.later hBw, SortP.start hp hsrt⟩, hv, by rw [← hlen]; exact hrow, row_kept (S := fun _ => False) HRow.out (Keeps.ofNew h12 _) (fun _ _ _ h => h), hKD, HBwr.out.trans (h12.mono hsz1), hsz1⟩
        rw [hlen] at hrow
        obtain ⟨aoA, capA, rfl⟩ := own_val hrow
        have hSC := Lib.hid hsoc
        have hbx := hv.cell
        have hql := quLen W' (HQ.out.later (by rw [← HBoE.out]; exact hB))
        rw [mkM_len] at hql
        have HQl2 := Lib.hid hql
        clear hv hrow hB hKD hp hsrt hsoc hql hlen
        go_wp2_with fail
        refine HQl2.out.mono ?_
        rintro en w3 ⟨rfl, rfl⟩
        obtain ⟨B1, hB1⟩ : ∃ B1, B1 = wr.heap.size := ⟨_, rfl⟩
        rw [← hB1] at hSC
        clear hB1
        go_wp2
        go_loopw [9] (fun i wr2 => ∃ k : Nat, k ≤ n ∧ i = .int .i64 k ∧ SoC w ks n B1 q Bo D (.slice aoA n capA) (.slice ao3 n cap3) S k wr2) (fun i _ => n - (intOf i).toNat)
        case atStart => exact ⟨0, Nat.zero_le _, rfl, hSC.out⟩
        case round =>
          obtain ⟨k, hk, rfl, hs⟩ := hrel
          have HS := Lib.hid hs
          have hbx := hs.box.cell
          by_cases hlt : k < n
          · have hlt2 : (k : Int) < n := by omega
            obtain ⟨M, hq, hsp⟩ := hs.ex
            obtain ⟨i, hi, hxe⟩ := hsp.at hlt
            have HT := Lib.hid (quTake_is wr hq (hsp.first hlt))
            have hnx := hsp.next hlt hq.trn.once
            rw [hxe] at HT hnx
            have HNx := Lib.hid hnx
            have hways : (¬ (k : Int) > 0) ∨ (∃ j : Nat, k = j + 1 ∧ ((pos S j).key < ks.getD i 0 ∨ ((pos S j).key = ks.getD i 0 ∧ (pos S j).name < i))) := by
              cases k with
              | zero => left; simp
              | succ j =>
                right
                have := hsp.prev hlt
                rw [hxe] at this
                exact ⟨j, rfl, this⟩
            have HW := Lib.hid hways
            have hAt := hsp.len
            have HLen := Lib.hid hAt
            have HXe := Lib.hid hxe
            obtain ⟨key, hkey⟩ : ∃ z, z = ks.getD i 0 := ⟨_, rfl⟩
            rw [← hkey] at HT HW HXe
            have HKey := Lib.hid hkey
            clear hq hsp hs hxe hnx hways hAt hkey
            go_wp2_with fail
            refine HT.out.mono ?_
            rintro en w6 ⟨rfl, hq6, hk6⟩
            have HS6 := Lib.hid (HS.out.next HNx.out hq6 hk6)
            clear hbx hq6 hk6
            have hbx := HS6.out.box.cell
            have hbxl := HS6.out.box.lt
            obtain ⟨aA, bA, oA, cA, hvA, hA1, hA2⟩ := own_it2 HLen.out.symm HS6.out.rowA
            simp only [List.length_map, HLen.out, Value.slice.injEq] at hvA hA1 hA2
            obtain ⟨rfl, -, rfl⟩ := hvA
            obtain ⟨rfl, csA, frA, hgA⟩ := hA1 (by omega)
            have hgAl := lt_of_block hgA
            obtain ⟨aL, bL, oL, cL, hvL, hL1, hL2⟩ := own_it (by rw [itM_len]) HS6.out.rowL
            simp only [itM_len, Value.slice.injEq] at hvL hL1 hL2
            obtain ⟨rfl, -, rfl⟩ := hvL
            obtain ⟨rfl, csL, frL, hgL⟩ := hL1 (by omega)
            have hgLl := lt_of_block hgL
            obtain ⟨l0, l1⟩ := hL2 i hi
            simp only [itM_get] at l0 l1
            rw [← HKey.out] at l0
            obtain ⟨a0, a1⟩ := hA2 k hlt
            simp only [List.getElem_map] at a0 a1
            rw [← pos_get (by rw [HLen.out]; exact hlt), HXe.out] at a0 a1
            simp only at a0 a1
            have hi2 : (i : Int) < n := by omega
            have hi3 : decide ((i : Int) < 0) = false := by simp
            have hi4 : decide ((n : Int) ≤ (i : Int)) = false := by simp; omega
            have hi5 : decide (n ≤ i) = false := by simp; omega
            have HE := Lib.hid (HS6.out.later (((Below.refl _ _).alloc (Nat.le_refl _) (.cells #[.int .i64 key, .int .i64 i] 30))))
            rcases HW.out with hz | ⟨j, hj, hjj⟩
            · have y1 : decide ((0 : Int) < (k : Int)) = false := by simp at hz ⊢; omega
              have y2 : decide (0 < k) = false := by simp at hz ⊢; omega
              clear hA1 hA2 hL1 hL2 hgA hgL
              go_upto_region 23 with (fail)
              simp only [List.append_eq, List.cons_append, List.nil_append]
              go_big_quiet (fail)
              go_wp2
              go_roundw
              case rel => exact ⟨k + 1, by omega, by go_num, HE.out.later (below_draws (Below.refl _ _) _)⟩
              case measure => simp [intOf]; omega
            · obtain ⟨p0, p1⟩ := hA2 j (by omega)
              simp only [List.getElem_map] at p0 p1
              rw [← pos_get (by rw [HLen.out]; omega)] at p0 p1
              have hz : (k : Int) > 0 := by omega
              have y1 : decide ((0 : Int) < (k : Int)) = true := by simp; omega
              have y2 : decide (0 < k) = true := by simp; omega
              have hjw : IntKind.i64.wrap ((k : Int) - 1) = (j : Int) := (IntWalk.i64_in _ (by omega)).trans (by omega)
              have hjn : (j : Int) < n := by omega
              obtain ⟨pk, hpk⟩ : ∃ z, z = (pos S j).key := ⟨_, rfl⟩
              obtain ⟨pn, hpn⟩ : ∃ z, z = (pos S j).name := ⟨_, rfl⟩
              rw [← hpk] at p0 hjj
              rw [← hpn] at p1 hjj
              clear hA1 hA2 hL1 hL2 hgA hgL hpk hpn hj
              rcases hjj with hjj | ⟨hjj, hjn2⟩
              · have z2 : decide (key < pk) = false := by simp; omega
                have z3 : (pk == key) = false := by simp; omega
                have z4 : decide (pk = key) = false := by simp; omega
                go_upto_region 23 with (fail)
                simp only [List.append_eq, List.cons_append, List.nil_append]
                go_big_quiet (fail)
                go_wp2
                go_roundw
                case rel => exact ⟨k + 1, by omega, by go_num, HE.out.later (below_draws (Below.refl _ _) _)⟩
                case measure => simp [intOf]; omega
              · subst hjj
                have z2 : decide ((i : Int) ≤ pn) = false := by simp; omega
                go_upto_region 23 with (fail)
                simp only [List.append_eq, List.cons_append, List.nil_append]
                go_big_quiet (fail)
                go_wp2
                go_roundw
                case rel => exact ⟨k + 1, by omega, by go_num, HE.out.later (below_draws (Below.refl _ _) _)⟩
                case measure => simp [intOf]; omega
          · have hkn : k = n := by omega
            have hk3 : ¬ (k : Int) < n := by omega
            rw [hkn] at hs
            obtain ⟨M, hq, hsp⟩ := hs.ex
            have hM : M = [] := by
              have := hsp.prm
              rw [List.drop_of_length_le (by rw [hsp.len]; exact Nat.le_refl _)] at this
              exact (List.nil_perm.1 this)
            subst hM
            have HT := Lib.hid (quTake0 wr hq)
            have HQ3 := Lib.hid hq
            have HS3 := Lib.hid hs
            clear hq hsp hs HS hkn hlt
            go_wp2_with fail
            refine HT.out.mono ?_
            rintro en w6 ⟨rfl, hb6⟩
            have HS6 := Lib.hid (HS3.out.later hb6)
            have HQ6 := Lib.hid (HQ3.out.later hb6)
            clear hb6 hbx
            go_upto_region 26 with (fail)
            refine gen_world (S := fun u => Below w6.heap.size w6 u) ((Below.refl _ _).alloc (Nat.le_refl _) _) (fun u hu => ?_)
            have HSu := Lib.hid (HS6.out.later hu)
            have HLu := Lib.hid (quLen u (HQ6.out.later hu))
            clear hu
            go_wp2_with fail
            refine HLu.out.mono ?_
            rintro en w7 ⟨rfl, rfl⟩
            go_wp2
            refine ⟨by simp, .inl ⟨_, _, rfl, run_takeDeferred HSu.out.dfr, ?_⟩⟩
            exact ⟨_, results_tmp rfl _ _ _, rfl, HB.out.trans ((HSu.out.bel.trans (belowK_b (w := w) (Nat.le_refl _) u D _ _ hD0.out HSu.out.dfr rfl rfl)).mono HB.out.size)⟩
      case stop =>
        rintro D c pre W' _ _ h _
        exact h.elim
end Go.Proofs.Ytcpcgpanmoellaa
