/-
  Package seedlingref23: the document's record: Hoped, Begin, End.
-/
import Derived.Test.YtfhgmnlhmfnckaaRefC
namespace Go.Proofs.Ytfhgmnlhmfnckaa
open Go.RowKit Go.Lib

theorem hopM_take (M : List Miss) (x : Int) {k : Nat} (h : k < M.length) : hopM (M.take (k + 1)) x = if M[k].1 = x then clOr (hopM (M.take k) x) M[k].2 else hopM (M.take k) x := by
  rw [List.take_succ_eq_append_getElem h, hopM_append]
  by_cases hx : M[k].1 = x
  · rw [if_pos hx, ← hx, hopM_one]
  · rw [if_neg hx, hopM_one_ne hx, clOr_none]

set_option maxRecDepth 100000 in
set_option maxHeartbeats 4000000 in
theorem doc_Hoped {H : Nat → Prop} {r : Nat} {v : Value} {L : List Part} {F : List Nat} (w : World) (h : RefS H w r v L F) (hF : ∀ n ∈ F, n ≤ L.length) (hn : L.length ≤ 1000000) (hn2 : F.length ≤ 1000000) :
    Calls Try.prog 32 #[.pointer (some ⟨r, 0, none⟩)] w fun e w' => e = .returned (clv (hopM (partL L F) (maxM (partL L F)))) ∧ Below w.heap.size w w' := by
  have hp := Lib.hid (fun u (hb : Below w.heap.size w u) => doc_part u (h.later hb) hF hn hn2)
  have hf := Lib.hid (fun u (hb : Below w.heap.size w u) => doc_Far u (h.later hb) hF hn hn2)
  clear h
  obtain ⟨M, hM⟩ : ∃ M, M = partL L F := ⟨_, rfl⟩
  rw [← hM] at hp hf ⊢
  obtain ⟨T, hT⟩ : ∃ T, T = maxM M := ⟨_, rfl⟩
  rw [← hT] at hf ⊢
  clear hM hT
  have hbN := Lib.hid ((Below.refl w.heap.size w).alloc (Nat.le_refl _) (.cells #[.int .u64 0, .int .u64 0, .int .u64 0, .int .u64 0] 29 (0, 0)))
  have hN := heap_alloc_new w (.cells #[.int .u64 0, .int .u64 0, .int .u64 0, .int .u64 0] 29 (0, 0))
  have HN := Lib.hid hN
  clear hN
  go_enter Try.func32, Try.ntmps32
  go_wp2_with fail
  refine (hp.out _ hbN.out).mono ?_
  rintro e w1 ⟨v1, rfl, hA, m, rfl⟩
  have HA := Lib.hid hA
  have HB1 : Hid (Below w.heap.size w ((w.alloc (.cells #[.int .u64 0, .int .u64 0, .int .u64 0, .int .u64 0] 29 (0, 0))).drewN m)) := Lib.hid (below_draws hbN.out m)
  clear hA
  go_wp2_with fail
  refine (hf.out _ HB1.out).mono ?_
  rintro e w2 ⟨rfl, hb2⟩
  have HA2 : Hid (MissAt w2 v1 M) := Lib.hid ((HA.out.later (below_same m rfl)).later hb2)
  have HB2 : Hid (Below w.heap.size w w2) := Lib.hid (HB1.out.trans (hb2.mono HB1.out.size))
  have HN2 : Hid (w2.heap[w.heap.size]? = some (.cells #[.int .u64 0, .int .u64 0, .int .u64 0, .int .u64 0] 29 (0, 0))) := Lib.hid ((hb2.block _ (by show w.heap.size < (w.alloc _).heap.size; simp)).trans HN.out)
  clear hb2 HA HB1 HN
  obtain ⟨ao, b, off, cap, rfl, hl, hmx, ha, hc⟩ := HA2.out
  have Ha := Lib.hid ha
  have Hc := Lib.hid hc
  have hlm : M.length ≤ 9223372036854775807 := by unfold maxLen at hmx; omega
  clear ha hc HA2
  obtain ⟨x, hx⟩ : ∃ x, x = w2.heap.size := ⟨_, rfl⟩
  have HX := Lib.hid hx
  have hbx : (w2.alloc (.cells #[.int .u64 0, .int .u64 0, .int .u64 0, .int .u64 0] 29 (0, 0))).heap[x]? = some (.cells #[.int .u64 0, .int .u64 0, .int .u64 0, .int .u64 0] 29 (0, 0)) := by rw [hx]; exact heap_alloc_new _ _
  have HBx := Lib.hid hbx
  have hNx : Hid (w.heap.size ≠ x) := Lib.hid (by have := lt_of_block HN2.out; omega)
  clear hbx
  go_wp2
  rw [← hx]
  clear hx
  go_loopw [6] (fun i wr => ∃ k : Nat, k ≤ M.length ∧ i = .int .i64 k ∧ wr.heap[x]? = some (.cells (clc (hopM (M.take k) T)) 29 (0, 0)) ∧ wr.heap[w.heap.size]? = some (.cells #[.int .u64 0, .int .u64 0, .int .u64 0, .int .u64 0] 29 (0, 0)) ∧ Below w2.heap.size w2 wr ∧ w2.heap.size ≤ x) (fun i _ => M.length - (intOf i).toNat)
  case atStart =>
    refine ⟨0, by omega, rfl, ?_, ?_, (Below.refl _ _).alloc (Nat.le_refl _) _, by rw [HX.out]; omega⟩
    · rw [show hopM (M.take 0) T = clNone from rfl, clc_none]
      exact HBx.out
    · rw [Below.heap_alloc _ _ _ (lt_of_block HN2.out)]
      exact HN2.out
  case round =>
    obtain ⟨k, hk, rfl, hh, hr, hB, hxl⟩ := hrel
    have HH := Lib.hid hh
    have HR := Lib.hid hr
    have HB := Lib.hid hB
    clear hh hr hB HBx
    by_cases hlt : k < M.length
    · have hkI : (k : Int) < M.length := by omega
      obtain ⟨rfl, hbl⟩ := Ha.out (by omega)
      have hcc := fun j (hj : j < 5) => (HB.out.cell (p := ⟨b, off + k * 5 + j, none⟩) hbl).trans (Hc.out k hlt j hj)
      obtain ⟨q, hq⟩ : ∃ q, q = M[k] := ⟨_, rfl⟩
      rw [← hq] at hcc
      have HQ := Lib.hid hq
      have d0 : wr.cell? ⟨b, off + k * 5, none⟩ = some (.int .i64 q.1) := hcc 0 (by omega)
      have d1 : wr.cell? ⟨b, off + k * 5 + 1, none⟩ = some (.int .u64 (word q.2 0)) := hcc 1 (by omega)
      have d2 : wr.cell? ⟨b, off + k * 5 + 2, none⟩ = some (.int .u64 (word q.2 1)) := hcc 2 (by omega)
      have d3 : wr.cell? ⟨b, off + k * 5 + 3, none⟩ = some (.int .u64 (word q.2 2)) := hcc 3 (by omega)
      have d4 : wr.cell? ⟨b, off + k * 5 + 4, none⟩ = some (.int .u64 (word q.2 3)) := hcc 4 (by omega)
      have hts := hopM_take M T hlt
      rw [← hq] at hts
      have HTs := Lib.hid hts
      clear hcc hq hts
      by_cases hqT' : q.1 = T
      · have hqT : (q.1 == T) = true := by simp [hqT']
        have HqT := Lib.hid hqT'
        clear hqT'
        obtain ⟨⟨r0, f0⟩, ⟨r1, f1⟩, ⟨r2, f2⟩, ⟨r3, f3⟩⟩ := four_cells HH.out
        have hxw := lt_of_block HH.out
        have hNw := lt_of_block HR.out
        have hblw : b < wr.heap.size := Nat.lt_of_lt_of_le hbl HB.out.size
        obtain ⟨s, hs⟩ : ∃ s, s = hopM (M.take k) T := ⟨_, rfl⟩
        have HS := Lib.hid hs
        rw [← hs] at r0 r1 r2 r3
        clear hs
        go_upto_region 8 with (fail)
        go_region_with (go_at_call 50; refine (ref_Or _ [s, q.2] _ (by first | exact cls_two (heap_alloc_new _ _) | exact cls_two (heap_alloc_new_drew _ _))).mono ?_; rintro e w5 ⟨rfl, hb5⟩; have hB5 : Below wr.heap.size wr w5 := (by first | exact (((Below.refl wr.heap.size wr).drew.alloc (Nat.le_refl _) _)).trans (hb5.mono (by simp)) | exact (((Below.refl wr.heap.size wr).alloc (Nat.le_refl _) _).drew).trans (hb5.mono (by simp))); rw [clFold_two]; simp only [clv, clc]; obtain ⟨⟨y0, e0⟩, ⟨y1, e1⟩, ⟨y2, e2⟩, ⟨y3, e3⟩⟩ := four_cells ((hB5.block _ hxw).trans HH.out); clear hb5)
        all_goals go_wp2
        all_goals
          go_roundw
          case rel =>
            refine ⟨k + 1, by omega, by go_num, ?_, ?_, ?_, hxl⟩
            · rw [HTs.out, if_pos HqT.out, ← HS.out]
              exact store4 ((hB5.block _ hxw).trans HH.out)
            · rw [Below.heap_setCell _ _ _ _ (by exact hNx.out), Below.heap_setCell _ _ _ _ (by exact hNx.out), Below.heap_setCell _ _ _ _ (by exact hNx.out), Below.heap_setCell _ _ _ _ (by exact hNx.out)]
              exact (hB5.block _ hNw).trans HR.out
            · exact (((HB.out.trans (hB5.mono HB.out.size)).setCell (p := ⟨x, 0, none⟩) hxl _).setCell (p := ⟨x, 1, none⟩) hxl _ |>.setCell (p := ⟨x, 2, none⟩) hxl _ |>.setCell (p := ⟨x, 3, none⟩) hxl _)
          case measure => simp [intOf] <;> omega
      · have hqT : (q.1 == T) = false := by simp [hqT']
        have HqT := Lib.hid hqT'
        clear hqT'
        go_wp2
        go_roundw
        case rel => exact ⟨k + 1, by omega, by go_num, by rw [HTs.out, if_neg HqT.out]; exact HH.out, HR.out, HB.out, hxl⟩
        case measure => simp [intOf] <;> omega
    · obtain rfl : k = M.length := by omega
      have hkI : ¬ (M.length : Int) < M.length := by omega
      have hh := HH.out
      rw [List.take_length] at hh
      obtain ⟨c0, c1, c2, c3⟩ := cls_cells hh
      obtain ⟨⟨r0, f0⟩, ⟨r1, f1⟩, ⟨r2, f2⟩, ⟨r3, f3⟩⟩ := four_cells HR.out
      clear hh
      go_wp2
      have hst := store4 (u0 := .int .u64 (word (hopM M T) 0)) (u1 := .int .u64 (word (hopM M T) 1)) (u2 := .int .u64 (word (hopM M T) 2)) (u3 := .int .u64 (word (hopM M T) 3)) HR.out
      refine bodyPost_ret (results_cell_row rfl _ _ w.heap.size _ _ _ _ rfl hst Try.und_class rfl Try.size_class) rfl ⟨rfl, ?_⟩
      exact (((((Keeps.ofBelow (HB2.out.trans (HB.out.mono HB2.out.size))).setCell (by simp) _).setCell (by simp) _).setCell (by simp) _).setCell (by simp) _).below (Nat.le_refl _) (fun k hk => hk)
end Go.Proofs.Ytfhgmnlhmfnckaa
