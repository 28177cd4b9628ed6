/-
  Nested.
-/
import Derived.Test.YtndminmefacmnaaSnS
import Derived.Test.YtndminmefacmnaaSnQ
namespace Go.Proofs.Ytndminmefacmnaa
open Go.RowKit Go.Lib

/-- spans lie in each other, or apart. -/
def nestS (l : List Sg) : Bool := (List.range l.length).all fun i => rightS (l.getD i ⟨0, 0⟩) && (List.range i).all fun j => apartS (l.getD i ⟨0, 0⟩) (l.getD j ⟨0, 0⟩)
def Good (l : List Sg) (i : Nat) : Prop := rightS (l.getD i ⟨0, 0⟩) = true ∧ ∀ j, j < i → apartS (l.getD i ⟨0, 0⟩) (l.getD j ⟨0, 0⟩) = true
theorem nestS_iff (l : List Sg) : nestS l = true ↔ ∀ i, i < l.length → Good l i := by
  unfold nestS Good
  simp only [List.all_eq_true, List.mem_range, Bool.and_eq_true]
theorem nestS_no {l : List Sg} {i : Nat} (h : i < l.length) (hg : ¬ Good l i) : nestS l = false := by
  cases hn : nestS l
  · rfl
  · exact absurd ((nestS_iff l).1 hn i h) hg
theorem getD_at {l : List Sg} {i : Nat} (h : i < l.length) : l.getD i ⟨0, 0⟩ = l[i] := by
  simp [List.getD, h]
set_option maxHeartbeats 1000000 in
/-- what ContainsFunc asks. -/
theorem nf_any (g : Nat) (a b c d : Int) (w : World) (h : w.heap[g]? = some (.cells #[.int .i64 a, .int .i64 b] 23 (0, 0))) (hb : b ≤ 9223372036854775807) :
    Calls Try.prog 45 #[.agg #[.int .i64 c, .int .i64 d], .pointer (some ⟨g, 0, none⟩)] w fun e w' => e = .returned (.bool (!apartS ⟨a, b⟩ ⟨c, d⟩)) ∧ Below w.heap.size w w' := by
  have H := Lib.hid h
  have HA := Lib.hid (fun u => apart_any a b c d u hb)
  clear h
  go_enter Try.func45, Try.ntmps45
  go_upto_region 1 with (fail)
  refine gen_world (S := fun u => Below w.heap.size w u ∧ u.heap[w.heap.size]? = some (.cells #[.int .i64 c, .int .i64 d] 23 (0, 0))) (one_new w _) (fun u hu => ?_)
  obtain ⟨hb0, hx⟩ := hu
  obtain ⟨x0, x1⟩ := two_box hx
  obtain ⟨y0, y1⟩ := two_box ((hb0.block _ (lt_of_block H.out)).trans H.out)
  have HB := Lib.hid hb0
  obtain ⟨X, hX⟩ : ∃ X, X = w.heap.size := ⟨_, rfl⟩
  rw [← hX] at x0 x1 ⊢
  clear hb0 hx hX
  go_wp2_with fail
  refine (HA.out _).mono ?_
  rintro e u2 ⟨rfl, hb2⟩
  have HB2 := Lib.hid (HB.out.trans (hb2.mono HB.out.size))
  clear hb2
  go_wp2
  go_ret
  exact ⟨rfl, HB2.out⟩
abbrev nfF (g : Nat) : Value := .func (.func 45) #[] #[.pointer (some ⟨g, 0, none⟩)]
set_option maxRecDepth 100000 in
set_option maxHeartbeats 2000000 in
theorem nidx_any (g : Nat) (a b : Int) (v : Value) (l : List Sg) (w : World) (h : SgsAt w v l) (hl : l.length ≤ 1000000) (hg : w.heap[g]? = some (.cells #[.int .i64 a, .int .i64 b] 23 (0, 0))) (hb : b ≤ 9223372036854775807) :
    Calls Try.prog 54 #[v, nfF g] w fun e w' => ∃ z : Int, e = .returned (.int .i64 z) ∧ -1 ≤ z ∧ (0 ≤ z ↔ ∃ j, j < l.length ∧ apartS ⟨a, b⟩ (l.getD j ⟨0, 0⟩) = false) ∧ Below w.heap.size w w' := by
  have H := Lib.hid h
  have HG := Lib.hid hg
  have HBb := Lib.hid hb
  obtain ⟨ao, cap, rfl⟩ := h.val
  obtain ⟨n, hn⟩ : ∃ n, n = l.length := ⟨_, rfl⟩
  have HN := Lib.hid hn
  rw [← hn] at H hl ⊢
  clear h hn hg hb
  go_enter Try.func54, Try.ntmps54
  go_wp2
  go_loopw [8] (fun i wr => ∃ k : Nat, k ≤ n ∧ i = .int .i64 k ∧ Hid (∀ j, j < k → apartS ⟨a, b⟩ (l.getD j ⟨0, 0⟩) = true) ∧ Hid (Below w.heap.size w wr)) (fun i _ => n - (intOf i).toNat)
  case atStart => exact ⟨0, by omega, rfl, Lib.hid (fun j hj => absurd hj (by omega)), Lib.hid (Below.refl _ _)⟩
  case round =>
    obtain ⟨k, hk, rfl, HT, HB⟩ := hrel
    by_cases hlt : k < n
    · have hlt' : (k : Int) < n := by omega
      have hkL : k < l.length := by rw [← HN.out]; exact hlt
      obtain ⟨bb, off, rfl, -, c0, c1⟩ := (H.out.later HB.out).cells.2.2.2.2 k hkL
      obtain ⟨⟨fr, tz⟩, hs⟩ : ∃ s, s = l[k] := ⟨_, rfl⟩
      rw [← hs] at c0 c1
      have HS := Lib.hid ((getD_at hkL).trans hs.symm)
      simp only at c0 c1
      have HF := Lib.hid (nf_any g a b fr tz wr ((HB.out.block _ (lt_of_block HG.out)).trans HG.out) HBb.out)
      clear hs
      cases he : apartS ⟨a, b⟩ ⟨fr, tz⟩
      · rw [he] at HF
        have HE := Lib.hid he
        clear he
        go_wp2_with fail
        refine HF.out.mono ?_
        rintro e w2 ⟨rfl, hb⟩
        have HB2 := Lib.hid (HB.out.trans (hb.mono HB.out.size))
        clear hb c0 c1
        go_wp2
        go_ret
        exact ⟨_, rfl, by omega, ⟨fun _ => ⟨k, hlt, by rw [HS.out]; exact HE.out⟩, fun _ => by omega⟩, HB2.out⟩
      · rw [he] at HF
        have HT2 := Lib.hid (show ∀ j, j < k + 1 → apartS ⟨a, b⟩ (l.getD j ⟨0, 0⟩) = true from fun j hj => by
          by_cases h : j < k
          · exact HT.out j h
          · obtain rfl : j = k := by omega
            rw [HS.out]
            exact he)
        clear he
        go_wp2_with fail
        refine HF.out.mono ?_
        rintro e w2 ⟨rfl, hb⟩
        have HB2 := Lib.hid (HB.out.trans (hb.mono HB.out.size))
        clear hb c0 c1
        go_wp2
        go_roundw
        case rel => exact ⟨k + 1, by omega, by go_num, HT2, HB2⟩
        case measure => simp [intOf]; omega
    · have hlt' : ¬ (k : Int) < n := by omega
      have HT2 := Lib.hid (show ¬ ∃ j, j < n ∧ apartS ⟨a, b⟩ (l.getD j ⟨0, 0⟩) = false from fun ⟨j, hj, h⟩ => by
        have := HT.out j (by omega)
        rw [h] at this
        cases this)
      go_wp2
      go_ret
      exact ⟨_, rfl, by omega, ⟨fun h => absurd h (by omega), fun h => absurd h HT2.out⟩, HB.out⟩
set_option maxHeartbeats 2000000 in
theorem ncont_any (g : Nat) (a b : Int) (v : Value) (l : List Sg) (w : World) (q : Bool) (h : SgsAt w v l) (hl : l.length ≤ 1000000) (hg : w.heap[g]? = some (.cells #[.int .i64 a, .int .i64 b] 23 (0, 0))) (hb : b ≤ 9223372036854775807)
    (hq : q = true ↔ ∃ j, j < l.length ∧ apartS ⟨a, b⟩ (l.getD j ⟨0, 0⟩) = false) :
    Calls Try.prog 44 #[v, nfF g] w fun e w' => e = .returned (.bool q) ∧ Below w.heap.size w w' := by
  have HI := Lib.hid (nidx_any g a b v l w h hl hg hb)
  have HQ := Lib.hid hq
  clear h hl hg hb hq
  go_enter Try.func44, Try.ntmps44
  go_wp2_with fail
  refine HI.out.mono ?_
  rintro e w2 ⟨z, rfl, hz1, hz, hb⟩
  have HZ := Lib.hid (hz.trans HQ.out.symm)
  have HB := Lib.hid hb
  clear hz hb
  by_cases h0 : 0 ≤ z
  · have HQ1 := Lib.hid (HZ.out.1 h0)
    go_wp2
    go_ret
    exact ⟨ret_bool (by rw [HQ1.out] <;> simp [h0]), HB.out⟩
  · have HQ1 := Lib.hid (show q = false from by cases q; rfl; exact absurd (HZ.out.2 rfl) h0)
    go_wp2
    go_ret
    exact ⟨ret_bool (by rw [HQ1.out] <;> simp [h0]), HB.out⟩
theorem sgs_take {w : World} {b off n cap k : Nat} {l : List Sg} (h : SgsAt w (.slice (some ⟨b, off, none⟩) n cap) l) (hk : k ≤ n) : SgsAt w (.slice (some ⟨b, off, none⟩) k cap) (l.take k) := by
  obtain ⟨ao, b', off', cap', he, h1, h2, h3, h4, h5, h6⟩ := h
  simp only [Value.slice.injEq, List.length_map] at he
  obtain ⟨rfl, rfl, rfl⟩ := he
  simp only [List.length_map] at h1 h4 h6
  have hlen : ((l.take k).map sgc).length = k := by simp; omega
  refine ⟨some ⟨b, off, none⟩, b', off', cap, by rw [hlen], by rw [hlen]; omega, h2, fun h => by simp at h, fun h => by rw [hlen] at h; exact h4 (by omega), fun e he => ?_, fun i hi j hj => ?_⟩
  · exact h5 e (by
      rw [List.map_take] at he
      exact List.mem_of_mem_take he)
  · rw [hlen] at hi
    rw [h6 i (by omega) j hj]
    simp
theorem take_getD {l : List Sg} {k j : Nat} (h : j < k) (hk : k ≤ l.length) : (l.take k).getD j ⟨0, 0⟩ = l.getD j ⟨0, 0⟩ := by
  simp [List.getD, List.getElem?_take, h]
theorem good_iff {l : List Sg} {k : Nat} {s : Sg} (hs : l.getD k ⟨0, 0⟩ = s) (hk : k ≤ l.length) (hr : rightS s = true) : (∃ j, j < (l.take k).length ∧ apartS s ((l.take k).getD j ⟨0, 0⟩) = false) ↔ ¬ Good l k := by
  unfold Good
  rw [hs]
  constructor
  · rintro ⟨j, hj, h⟩ ⟨-, hg⟩
    rw [List.length_take] at hj
    rw [take_getD (by omega) hk, hg j (by omega)] at h
    cases h
  · intro h
    refine Classical.byContradiction fun hn => h ⟨hr, fun j hj => ?_⟩
    cases ha : apartS s (l.getD j ⟨0, 0⟩)
    · exact absurd ⟨j, by rw [List.length_take]; omega, by rw [take_getD hj hk]; exact ha⟩ hn
    · rfl
set_option maxRecDepth 100000 in
set_option maxHeartbeats 4000000 in
theorem sNested_any (v : Value) (l : List Sg) (w : World) (h : SgsAt w v l) (hl : l.length ≤ 100000) (hto : ∀ s ∈ l, s.to ≤ 9223372036854775807) :
    Calls Try.prog 30 #[v] w fun e w' => e = .returned (.bool (nestS l)) ∧ Below w.heap.size w w' := by
  have H := Lib.hid h
  have HTo := Lib.hid hto
  obtain ⟨ao, cap, rfl⟩ := h.val
  obtain ⟨n, hn⟩ : ∃ n, n = l.length := ⟨_, rfl⟩
  have HN := Lib.hid hn
  have hc1 := h.cells.2.1
  have hc2 := h.cells.2.2.1
  rw [← hn] at H hl hc1 ⊢
  have hc3 : cap ≤ 9223372036854775807 := by unfold maxLen at hc2; omega
  clear h hn hto hc2
  go_enter Try.func30, Try.ntmps30
  go_wp2
  go_loopw [7] (fun i wr => ∃ k : Nat, k ≤ n ∧ i = .int .i64 k ∧ Hid (∀ j, j < k → Good l j) ∧ Hid (Below w.heap.size w wr)) (fun i _ => n - (intOf i).toNat)
  case atStart => exact ⟨0, by omega, rfl, Lib.hid (fun j hj => absurd hj (by omega)), Lib.hid (Below.refl _ _)⟩
  case round =>
    obtain ⟨k, hk, rfl, HT, HB⟩ := hrel
    by_cases hlt : k < n
    · have hlt' : (k : Int) < n := by omega
      have hk0 : (0 : Int) ≤ k := by omega
      have hkc : (k : Int) ≤ cap := by omega
      have hkL : k < l.length := by rw [← HN.out]; exact hlt
      obtain ⟨bb, off, rfl, -, c0, c1⟩ := (H.out.later HB.out).cells.2.2.2.2 k hkL
      obtain ⟨⟨fr, tz⟩, hs⟩ : ∃ s, s = l[k] := ⟨_, rfl⟩
      rw [← hs] at c0 c1
      have HS := Lib.hid ((getD_at hkL).trans hs.symm)
      have HTz := Lib.hid (show tz ≤ 9223372036854775807 from HTo.out ⟨fr, tz⟩ (by rw [hs]; exact List.getElem_mem _))
      simp only at c0 c1
      clear hs
      go_upto_region 4 with (fail)
      obtain ⟨hb1, hg1⟩ := one_new wr (.cells #[.int .i64 fr, .int .i64 tz] 23 (0, 0))
      refine gen_world (S := fun u => Below w.heap.size w u ∧ u.heap[wr.heap.size]? = some (.cells #[.int .i64 fr, .int .i64 tz] 23 (0, 0))) ⟨HB.out.trans (hb1.mono HB.out.size), hg1⟩ (fun u hu => ?_)
      obtain ⟨hbu, hgu⟩ := hu
      have HBu := Lib.hid hbu
      have HGu := Lib.hid hgu
      obtain ⟨x0, x1⟩ := two_box hgu
      generalize wr.heap.size = X at HGu x0 x1 ⊢
      clear hb1 hg1 hbu hgu c0 c1
      have HR := Lib.hid (fun u => sRight_any fr tz u)
      cases hr : srB fr tz
      · rw [hr] at HR
        have HNo := Lib.hid (nestS_no hkL (fun hg => by
          have := hg.1
          rw [HS.out, ← srB_eq, hr] at this
          cases this))
        clear hr
        go_wp2_with fail
        refine (HR.out _).mono ?_
        rintro e u2 ⟨rfl, hb⟩
        have HB2 := Lib.hid (HBu.out.trans (hb.mono HBu.out.size))
        clear hb
        go_wp2
        go_ret
        exact ⟨ret_bool HNo.out.symm, HB2.out⟩
      · rw [hr] at HR
        have HRr := Lib.hid (show rightS ⟨fr, tz⟩ = true from hr)
        have HGi := Lib.hid (good_iff HS.out (Nat.le_of_lt hkL) HRr.out)
        clear hr
        obtain ⟨q, hq⟩ : ∃ q : Bool, q = true ↔ ¬ Good l k := by
          by_cases hg : Good l k
          · exact ⟨false, by simp [hg]⟩
          · exact ⟨true, by simp [hg]⟩
        have HQ := Lib.hid hq
        clear hq
        go_wp2_with fail
        refine (HR.out _).mono ?_
        rintro e u2 ⟨rfl, hb⟩
        have HB2 := Lib.hid (HBu.out.trans (hb.mono HBu.out.size))
        have HG2 := Lib.hid ((hb.block _ (lt_of_block HGu.out)).trans HGu.out)
        clear hb x0 x1
        have HC := Lib.hid (ncont_any X fr tz (.slice (some ⟨bb, off, none⟩) k cap) (l.take k) u2 q (sgs_take (H.out.later HB2.out) hk) (by rw [List.length_take]; omega) HG2.out HTz.out (HQ.out.trans HGi.out.symm))
        by_cases hg : Good l k
        · have hqf : q = false := by cases q; rfl; exact absurd hg (HQ.out.1 rfl)
          subst hqf
          have HT2 := Lib.hid (show ∀ j, j < k + 1 → Good l j from fun j hj => by
            by_cases h : j < k
            · exact HT.out j h
            · obtain rfl : j = k := by omega
              exact hg)
          clear hg
          go_wp2_with fail
          refine HC.out.mono ?_
          rintro e u3 ⟨rfl, hb⟩
          have HB3 := Lib.hid (HB2.out.trans (hb.mono HB2.out.size))
          clear hb
          go_wp2
          go_roundw
          case rel => exact ⟨k + 1, by omega, by go_num, HT2, HB3⟩
          case measure => simp [intOf]; omega
        · have hqf : q = true := HQ.out.2 hg
          subst hqf
          have HNo := Lib.hid (nestS_no hkL hg)
          clear hg
          go_wp2_with fail
          refine HC.out.mono ?_
          rintro e u3 ⟨rfl, hb⟩
          have HB3 := Lib.hid (HB2.out.trans (hb.mono HB2.out.size))
          clear hb
          go_wp2
          go_ret
          exact ⟨ret_bool HNo.out.symm, HB3.out⟩
    · have hlt' : ¬ (k : Int) < n := by omega
      have HYes := Lib.hid ((nestS_iff l).2 (fun i hi => HT.out i (by rw [← HN.out] at hi; omega)))
      go_wp2
      go_ret
      exact ⟨ret_bool HYes.out.symm, HB.out⟩
end Go.Proofs.Ytndminmefacmnaa
