/-
  Join, as the document has it.
-/
import Derived.Test.YtndminmefacmnaaSnS
import Derived.Test.YtndminmefacmnaaSnQ
namespace Go.Proofs.Ytndminmefacmnaa
open Go.RowKit Go.Lib

theorem join_step {l : List Sg} {k : Nat} (h : k < l.length) : (l.take (k + 1)).filter rightS = if rightS l[k] = true then (l.take k).filter rightS ++ [l[k]] else (l.take k).filter rightS := by
  rw [List.take_succ_eq_append_getElem h, List.filter_append]
  split
  · rename_i hr
    rw [List.filter_cons_of_pos hr, List.filter_nil]
  · rename_i hr
    rw [List.filter_cons_of_neg hr, List.filter_nil, List.append_nil]
set_option maxRecDepth 100000 in
set_option maxHeartbeats 4000000 in
theorem rJoin_any (v : Value) (l : List Sg) (w : World) (h : SgsAt w v l) (hl : l.length ≤ 100000) :
    Calls Try.prog 29 #[v] w fun e w' => e = .returned (sgv (joinS l)) ∧ Below w.heap.size w w' := by
  have H := Lib.hid h
  obtain ⟨ao, cap, rfl⟩ := h.val
  obtain ⟨n, hn⟩ : ∃ n, n = l.length := ⟨_, rfl⟩
  have HN := Lib.hid hn
  rw [← hn] at H hl ⊢
  have HLl := Lib.hid hl
  clear h hn hl
  go_enter Try.func29, Try.ntmps29
  go_upto_region 2 with (fail)
  obtain ⟨hb0, hx, hy⟩ := two_new w (.cells #[.int .i64 0, .int .i64 0] 23 (0, 0)) (.cells #[.int .i64 0, .int .i64 0] 23 (0, 0))
  refine gen_world (S := fun u => Below w.heap.size w u ∧ u.heap[w.heap.size]? = some (.cells #[.int .i64 0, .int .i64 0] 23 (0, 0)) ∧ u.heap[w.heap.size + 1]? = some (.cells #[.int .i64 0, .int .i64 0] 23 (0, 0))) ⟨hb0, hx, hy⟩ (fun u hu => ?_)
  obtain ⟨hbu, hxu, hyu⟩ := hu
  have HX := Lib.hid hxu
  have HY := Lib.hid hyu
  have HB := Lib.hid hbu
  obtain ⟨X, hX⟩ : ∃ X, X = w.heap.size := ⟨_, rfl⟩
  have HXe := Lib.hid hX
  rw [← hX] at HX HY ⊢
  clear hb0 hx hy hbu hxu hyu hX
  have hl1 : n ≤ 100000 := HLl.out
  go_wp2
  go_loopw [4, 5] (fun fst i wr => ∃ (k : Nat) (q : Bool), k ≤ n ∧ i = .int .i64 k ∧ fst = .bool q ∧ Hid (q = true ↔ (l.take k).filter rightS = []) ∧ Hid (wr.heap[X]? = some (.cells #[.int .i64 0, .int .i64 0] 23 (0, 0))) ∧ Hid (wr.heap[X + 1]? = some (.cells #[.int .i64 (jnD ((l.take k).filter rightS)).fr, .int .i64 (jnD ((l.take k).filter rightS)).to] 23 (0, 0))) ∧ Hid (Below w.heap.size w wr)) (fun _ i _ => n - (intOf i).toNat)
  case atStart => exact ⟨0, true, by omega, rfl, rfl, Lib.hid (by simp), HX, HY, HB⟩
  case round =>
    obtain ⟨k, q, hk, rfl, rfl, HQ, HXr, HYr, HBr⟩ := hrel
    by_cases hlt : k < n
    · have hlt' : (k : Int) < n := by omega
      have hkl : k < l.length := by rw [← HN.out]; exact hlt
      obtain ⟨b, off, rfl, -, e0, e1⟩ := (H.out.later HBr.out).cells.2.2.2.2 k hkl
      obtain ⟨x, hx⟩ : ∃ x, x = l[k] := ⟨_, rfl⟩
      have HS := Lib.hid (join_step hkl)
      rw [← hx] at e0 e1 HS
      have HEx := Lib.hid hx
      have HKl := Lib.hid hkl
      clear hx
      obtain ⟨sf, st⟩ := x
      simp only at e0 e1
      have HR := Lib.hid (fun u => rRight_any sf st u)
      cases hr : srB sf st
      · rw [hr] at HR
        replace HS := Lib.hid (HS.out.trans (if_neg (by rw [← srB_eq, hr]; simp)))
        clear hr
        go_wp2_with fail
        refine (HR.out _).mono ?_
        rintro e u2 ⟨rfl, hb⟩
        have HX2 := Lib.hid ((hb.block _ (lt_of_block HXr.out)).trans HXr.out)
        have HY2 := Lib.hid ((hb.block _ (lt_of_block HYr.out)).trans HYr.out)
        have HB2 := Lib.hid (HBr.out.trans (hb.mono HBr.out.size))
        clear hb
        go_wp2
        go_roundw
        case rel => exact ⟨k + 1, q, by omega, by go_num, rfl, Lib.hid (by rw [HS.out]; exact HQ.out), HX2, Lib.hid (by rw [HS.out]; exact HY2.out), HB2⟩
        case measure => simp [intOf]; omega
      · rw [hr] at HR
        replace HS := Lib.hid (HS.out.trans (if_pos (by rw [← srB_eq, hr])))
        clear hr
        obtain ⟨⟨jf, jt⟩, hj⟩ : ∃ j, j = jnD ((l.take k).filter rightS) := ⟨_, rfl⟩
        have HJn := Lib.hid (jnD_any (L := (l.take k).filter rightS) (s := ⟨sf, st⟩))
        rw [← hj] at HYr HJn
        clear hj
        replace HYr : Hid (wr.heap[X + 1]? = some (.cells #[.int .i64 jf, .int .i64 jt] 23 (0, 0))) := HYr
        go_wp2_with fail
        refine (HR.out _).mono ?_
        rintro e u2 ⟨rfl, hb⟩
        have HX2 := Lib.hid ((hb.block _ (lt_of_block HXr.out)).trans HXr.out)
        have HY2 := Lib.hid ((hb.block _ (lt_of_block HYr.out)).trans HYr.out)
        have HB2 := Lib.hid (HBr.out.trans (hb.mono HBr.out.size))
        clear hb HR e0 e1
        obtain ⟨b', off', hbe, -, e0, e1⟩ := (H.out.later HB2.out).cells.2.2.2.2 k HKl.out
        simp only [Option.some.injEq, Addr.mk.injEq, and_true] at hbe
        obtain ⟨rfl, rfl⟩ := hbe
        rw [← HEx.out] at e0 e1
        simp only at e0 e1
        obtain ⟨⟨tf, tt⟩, ht⟩ : ∃ t : Sg, t = if q = true then ⟨sf, st⟩ else ⟨jf, jt⟩ := ⟨_, rfl⟩
        have HT := Lib.hid ht
        clear ht
        go_upto_if 18 with (fail)
        go_cut [] (fun w1 => Hid (w1.heap[X]? = some (.cells #[.int .i64 0, .int .i64 0] 23 (0, 0))) ∧ Hid (w1.heap[X + 1]? = some (.cells #[.int .i64 tf, .int .i64 tt] 23 (0, 0))) ∧ Hid (Below w.heap.size w w1))
        case first =>
          cases q
          · have ht : (⟨tf, tt⟩ : Sg) = ⟨jf, jt⟩ := HT.out
            simp only [Sg.mk.injEq] at ht
            obtain ⟨rfl, rfl⟩ := ht
            go_wp2
            go_meet
            exact ⟨HX2, HY2, HB2⟩
          · have ht : (⟨tf, tt⟩ : Sg) = ⟨sf, st⟩ := HT.out
            simp only [Sg.mk.injEq] at ht
            obtain ⟨rfl, rfl⟩ := ht
            obtain ⟨y0, y1⟩ := two_box HY2.out
            obtain ⟨f0, f1⟩ := two_froz HY2.out
            obtain ⟨s2, hs2⟩ := set2 HY2.out (.int .i64 tf) (.int .i64 tt)
            have hx4 := (hs2.block X (lt_of_block HX2.out) (by omega)).trans HX2.out
            have HX4 := Lib.hid hx4
            have HY4 := Lib.hid s2
            have HB4 := Lib.hid (HB2.out.trans (hs2.below HB2.out.size (fun k e => by have := HXe.out; omega)))
            clear hx4 s2 hs2
            go_wp2
            go_meet
            exact ⟨HX4, HY4, HB4⟩
        case rest =>
          obtain ⟨HX3, HY3, HB3⟩ := hcut
          clear e0 e1 HX2 HY2 HB2
          obtain ⟨b', off', hbe, -, e0, e1⟩ := (H.out.later HB3.out).cells.2.2.2.2 k HKl.out
          simp only [Option.some.injEq, Addr.mk.injEq, and_true] at hbe
          obtain ⟨rfl, rfl⟩ := hbe
          rw [← HEx.out] at e0 e1
          simp only at e0 e1
          obtain ⟨y0, y1⟩ := two_box HY3.out
          obtain ⟨f0, f1⟩ := two_froz HY3.out
          have HJt := Lib.hid (show jnD ((l.take k).filter rightS ++ [⟨sf, st⟩]) = ⟨min tf sf, max tt st⟩ from by
            rw [HJn.out]
            have ht := HT.out
            by_cases hq : q = true
            · rw [if_pos hq] at ht
              rw [if_pos (HQ.out.1 hq), ← ht]
            · rw [if_neg hq] at ht
              rw [if_neg (fun h => hq (HQ.out.2 h)), ← ht])
          obtain ⟨mn, hmn⟩ : ∃ mn, mn = min tf sf := ⟨_, rfl⟩
          obtain ⟨mx, hmx⟩ : ∃ mx, mx = max tt st := ⟨_, rfl⟩
          rw [← hmn, ← hmx] at HJt
          have a3 := hmn.symm
          have a4 := hmx.symm
          have a5 := (Int.min_comm sf tf).trans a3
          have a6 := (Int.max_comm st tt).trans a4
          clear hmn hmx
          go_upto_region 10 with (fail)
          go_region
          have hk1 := Keeps.drew ((Keeps.refl (fun k => k = X + 1) wc).setCell (p := ⟨X + 1, 0, none⟩) rfl (.int .i64 mn))
          have hy1 : ((wc.setCell ⟨X + 1, 0, none⟩ (.int .i64 mn)).drew).heap[X + 1]? = some (.cells #[.int .i64 mn, .int .i64 tt] 23 (0, 0)) := block_setCell' (k := 0) HY3.out
          go_upto_region 11 with (fail)
          refine gen_world (S := fun v => Keeps (fun k => k = X + 1) wc v ∧ v.heap[X + 1]? = some (.cells #[.int .i64 mn, .int .i64 tt] 23 (0, 0))) ⟨hk1, hy1⟩ (fun w4 hv => ?_)
          obtain ⟨hk4, hy4⟩ := hv
          have HX4 := Lib.hid ((hk4.block X (lt_of_block HX3.out) (by omega)).trans HX3.out)
          have HB4 := Lib.hid (HB3.out.trans (hk4.below HB3.out.size (fun k e => by have := HXe.out; omega)))
          have HY4 := Lib.hid hy4
          clear e0 e1 y0 y1 f0 f1 hk1 hy1 hk4 hy4
          obtain ⟨b', off', hbe, -, e0, e1⟩ := (H.out.later HB4.out).cells.2.2.2.2 k HKl.out
          simp only [Option.some.injEq, Addr.mk.injEq, and_true] at hbe
          obtain ⟨rfl, rfl⟩ := hbe
          rw [← HEx.out] at e0 e1
          simp only at e0 e1
          obtain ⟨y0, y1⟩ := two_box HY4.out
          obtain ⟨f0, f1⟩ := two_froz HY4.out
          go_region
          have HK5 := Lib.hid (Keeps.drew ((Keeps.refl (fun k => k = X + 1) w4).setCell (p := ⟨X + 1, 1, none⟩) rfl (.int .i64 mx)))
          have HY5 : Hid (((w4.setCell ⟨X + 1, 1, none⟩ (.int .i64 mx)).drew).heap[X + 1]? = some (.cells #[.int .i64 mn, .int .i64 mx] 23 (0, 0))) := Lib.hid (block_setCell' (k := 1) HY4.out)
          have HX5 := Lib.hid ((HK5.out.block X (lt_of_block HX4.out) (by omega)).trans HX4.out)
          have HB5 := Lib.hid (HB4.out.trans (HK5.out.below HB4.out.size (fun k e => by have := HXe.out; omega)))
          clear e0 e1 y0 y1 f0 f1
          go_wp2
          go_roundw
          case rel => exact ⟨k + 1, false, by omega, by go_num, rfl, Lib.hid (by rw [HS.out]; simp), HX5, Lib.hid (by rw [HS.out, HJt.out]; exact HY5.out), HB5⟩
          case measure => simp [intOf]; omega
    · have hlt' : ¬ (k : Int) < n := by omega
      have hL : (l.take k).filter rightS = l.filter rightS := by rw [List.take_of_length_le (by rw [← HN.out]; omega)]
      rw [hL] at HYr
      have HJe := Lib.hid (show joinS l = jnD (l.filter rightS) from rfl)
      generalize jnD (l.filter rightS) = j at HYr HJe
      obtain ⟨jf, jt⟩ := j
      replace HYr : Hid (wr.heap[X + 1]? = some (.cells #[.int .i64 jf, .int .i64 jt] 23 (0, 0))) := HYr
      obtain ⟨y0, y1⟩ := two_box HYr.out
      obtain ⟨x0, x1⟩ := two_box HXr.out
      obtain ⟨f0, f1⟩ := two_froz HXr.out
      obtain ⟨s2, hs2⟩ := set2 HXr.out (.int .i64 jf) (.int .i64 jt)
      obtain ⟨g0, g1⟩ := two_box s2
      have HBf := Lib.hid (HBr.out.trans (hs2.below HBr.out.size (fun k e => by have := HXe.out; omega)))
      clear hL s2 hs2
      go_wp2
      refine bodyPost_ret (v := .agg #[.int .i64 jf, .int .i64 jt]) (by simp [results, Try.f29, go_sem, g0, g1]) rfl ⟨?_, HBf.out⟩
      rw [HJe.out]
end Go.Proofs.Ytndminmefacmnaa
