/-
  The document's Gaps; same; the chapter's example.
-/
import Derived.Test.YtndminmefacmnaaSnN
namespace Go.Proofs.Ytndminmefacmnaa
open Go.RowKit Go.Lib

theorem sweep_len (hi : Int) : ∀ (l : List Sg) (p : Int), (sweep hi l p).length ≤ l.length
  | [], p => by simp [sweep]
  | o :: r, p => by
    have h := sweep_len hi r (max p o.to)
    rw [sweep]
    by_cases h1 : o.fr > p
    · by_cases h2 : max p o.to ≥ hi
      · rw [if_pos h1, if_pos h2]; simp
      · rw [if_pos h1, if_neg h2]; simp; omega
    · by_cases h2 : max p o.to ≥ hi
      · rw [if_neg h1, if_pos h2]; simp
      · rw [if_neg h1, if_neg h2]; simp; omega
theorem ex_insert (a : Sg) : ∀ S : List Sg, S.Pairwise (fun a b => a.fr ≤ b.fr) → ∃ T : List Sg, T.Perm (a :: S) ∧ T.Pairwise (fun a b => a.fr ≤ b.fr)
  | [], _ => ⟨[a], List.Perm.refl _, by simp⟩
  | b :: S, h => by
    rw [List.pairwise_cons] at h
    by_cases hab : a.fr ≤ b.fr
    · refine ⟨a :: b :: S, List.Perm.refl _, ?_⟩
      rw [List.pairwise_cons, List.pairwise_cons]
      refine ⟨fun c hc => ?_, h⟩
      rcases List.mem_cons.1 hc with rfl | hc
      · exact hab
      · have := h.1 c hc; omega
    · obtain ⟨T, h1, h2⟩ := ex_insert a S h.2
      refine ⟨b :: T, (List.Perm.cons b h1).trans (List.Perm.swap a b S), ?_⟩
      rw [List.pairwise_cons]
      refine ⟨fun c hc => ?_, h2⟩
      have := h1.mem_iff.1 hc
      rcases List.mem_cons.1 this with rfl | hc
      · omega
      · exact h.1 c hc
theorem ex_sorted : ∀ L : List Sg, ∃ S : List Sg, S.Perm L ∧ S.Pairwise (fun a b => a.fr ≤ b.fr)
  | [] => ⟨[], List.Perm.refl _, List.Pairwise.nil⟩
  | a :: L => by
    obtain ⟨S, h1, h2⟩ := ex_sorted L
    obtain ⟨T, h3, h4⟩ := ex_insert a S h2
    exact ⟨T, h3.trans (List.Perm.cons a h1), h4⟩
/-- there are no more gaps than spans, and one. -/
theorem canon_len {l : List Sg} {hi p : Int} (h0 : 0 ≤ p) : (canon l hi p).length ≤ l.length + 1 := by
  by_cases h1 : p < hi
  · obtain ⟨S, hp, hs⟩ := ex_sorted (l.filter fun s => decide (0 ≤ s.fr ∧ s.fr < s.to))
    have hm : ∀ s, s ∈ S ↔ s ∈ l ∧ 0 ≤ s.fr ∧ s.fr < s.to := fun s => by
      rw [hp.mem_iff, List.mem_filter]
      simp
    have h2 := sweep_canon l hi S p h1 h0 (fun s hss => ((hm s).1 hss).2) hs (fun x _ _ => by
      rw [Bool.eq_iff_iff]
      unfold cov
      rw [List.any_eq_true, List.any_eq_true]
      constructor
      · rintro ⟨s, h2, h3⟩
        have := has_iff.1 h3
        exact ⟨s, (hm s).2 ⟨h2, by omega⟩, h3⟩
      · rintro ⟨s, h2, h3⟩
        exact ⟨s, ((hm s).1 h2).1, h3⟩)
    rw [← h2]
    refine Nat.le_trans (sweep_len hi _ p) ?_
    rw [List.length_append, hp.length_eq]
    have := List.length_filter_le (fun s : Sg => decide (0 ≤ s.fr ∧ s.fr < s.to)) l
    simp only [List.length_singleton]
    omega
  · rw [canon_end (by omega)]
    simp
theorem gapsS_len (s : Sg) (l : List Sg) : (gapsS s l).length ≤ l.length + 1 := by
  unfold gapsS
  split
  · rename_i h
    simp only [rightS, decide_eq_true_eq] at h
    exact canon_len h.1
  · simp
theorem over_succ {l : List Sg} {k : Nat} (h : k < l.length) (p : Int) : overM (l.take (k + 1)) p = if hasS l[k] p then max (overM (l.take k) p) l[k].to else overM (l.take k) p := by
  unfold overM
  rw [List.take_succ_eq_append_getElem h, foldl_snoc]
theorem end_succ {l : List Sg} {k : Nat} (h : k < l.length) (hi p : Int) : endM (l.take (k + 1)) hi p = if 0 < lenS l[k] ∧ l[k].fr > p then min (endM (l.take k) hi p) l[k].fr else endM (l.take k) hi p := by
  unfold endM
  rw [List.take_succ_eq_append_getElem h, foldl_snoc]
theorem sg_neq (a b : Int) (w : World) : (binOp .neq 23 (.agg #[.int .i64 a, .int .i64 b]) (.agg #[.int .i64 a, .int .i64 b])).run Try.prog w = .ok (.bool false) w := by
  go_simp
set_option maxRecDepth 100000 in
set_option maxHeartbeats 2000000 in
theorem same_any (v v' : Value) (t : List Sg) (w : World) (h : SgsAt w v t) (h' : SgsAt w v' t) :
    Calls Try.prog 27 #[v, v'] w fun e w' => e = .returned (.bool true) ∧ Below w.heap.size w w' := by
  have H := Lib.hid h
  have H' := Lib.hid h'
  obtain ⟨ao, cap, rfl⟩ := h.val
  obtain ⟨ao', cap', rfl⟩ := h'.val
  have hm := h.cells.2.2.1
  have hlc := h.cells.2.1
  have hlc' := h'.cells.2.1
  clear h h'
  obtain ⟨n, hn⟩ : ∃ n, n = t.length := ⟨_, rfl⟩
  have Hn := Lib.hid hn
  rw [← hn] at hlc hlc' H H' ⊢
  have hn2 : n ≤ 9223372036854775807 := by unfold maxLen at hm; omega
  clear hn hm
  go_enter Try.func27, Try.ntmps27
  go_wp2
  go_loopw [5] (fun i wr => ∃ k : Nat, k ≤ n ∧ i = .int .i64 k ∧ Below w.heap.size w wr) (fun i _ => n - (intOf i).toNat)
  case atStart => exact ⟨0, by omega, rfl, Below.refl _ _⟩
  case round =>
    obtain ⟨k, hk, rfl, hbel⟩ := hrel
    by_cases hlt : k < n
    · have hlt' : (k : Int) < n := by omega
      obtain ⟨b, off, rfl, -, e0, e1⟩ := (H.out.later hbel).cells.2.2.2.2 k (by rw [← Hn.out]; exact hlt)
      obtain ⟨b', off', rfl, -, g0, g1⟩ := (H'.out.later hbel).cells.2.2.2.2 k (by rw [← Hn.out]; exact hlt)
      obtain ⟨x, hx⟩ : ∃ x, x = t[k]'(by rw [← Hn.out]; exact hlt) := ⟨_, rfl⟩
      rw [← hx] at e0 e1 g0 g1
      clear hx
      obtain ⟨x0, x1⟩ := x
      simp only at e0 e1 g0 g1
      go_wp2_with fail
      go_quiet (fail)
      go_wp2
      go_roundw
      case rel => exact ⟨k + 1, by omega, by go_num, below_draws hbel _⟩
      case measure => simp [intOf]; omega
    · have hlt' : ¬ (k : Int) < n := by omega
      go_wp2
      go_ret
      exact ⟨rfl, hbel⟩
theorem gaps_ex : gapsS ⟨0, 9⟩ [⟨2, 4⟩, ⟨3, 6⟩] = [⟨0, 2⟩, ⟨6, 9⟩] := by decide
end Go.Proofs.Ytndminmefacmnaa
