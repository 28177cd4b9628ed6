import Derived.Test.YtadkjjpopmiceaaGreatTbcm
namespace Go.Proofs.YtadkjjpopmiceaaGreat
open Go.RowKit Go.Lib

/-- numbers in memory, read. -/
def NmAt (w : World) (v : Value) (l : List Nat) : Prop :=
  ∃ ao cap, v = .slice ao l.length cap ∧ l.length ≤ cap ∧ cap ≤ maxLen ∧ ∀ i (hi : i < l.length), ∃ b off, ao = some ⟨b, off, none⟩ ∧ b < w.heap.size ∧ w.cell? ⟨b, off + i, none⟩ = some (.int .i64 (l[i] : Int))
theorem NmAt.later {w w' : World} {v : Value} {l : List Nat} (h : NmAt w v l) (hb : Below w.heap.size w w') : NmAt w' v l := by
  obtain ⟨ao, cap, he, h1, h2, h3⟩ := h
  refine ⟨ao, cap, he, h1, h2, fun i hi => ?_⟩
  obtain ⟨b, off, e, hlt, hc⟩ := h3 i hi
  exact ⟨b, off, e, Nat.lt_of_lt_of_le hlt hb.size, cell_later hb hc⟩
theorem nats_flat (l : List Nat) : nats l = l.flatMap fun i : Nat => [Value.int .i64 (i : Int)] := by
  induction l with
  | nil => rfl
  | cons a l ih => simp [nats] at ih ⊢; exact ih
theorem OwnN.nm {B : Nat} {w : World} {v : Value} {l : List Nat} (h : OwnN B w v l) : NmAt w v l := by
  unfold OwnN at h
  rcases h.2 with ⟨rfl, h0⟩ | ⟨g, cap, cur, rfl, hb, hg, h1, h2, h3, ht⟩
  · obtain rfl : l = [] := List.eq_nil_of_length_eq_zero h0
    exact ⟨none, 0, rfl, Nat.le_refl _, Nat.zero_le _, fun i hi => absurd hi (by simp)⟩
  · refine ⟨_, cap, rfl, h1, h2, fun i hi => ⟨g, 0, rfl, lt_of_block hg, ?_⟩⟩
    rw [nats_flat] at h
    have := (own_cellC (C := 1) (fun _ => rfl) h i hi 0 (by omega)).1
    simpa using this
theorem nm_block {w : World} {g : Nat} {l : List Nat} (h : w.heap[g]? = some (.cells (nats l).toArray 3 (0, 0))) (hl : l.length ≤ maxLen) : NmAt w (.slice (some ⟨g, 0, none⟩) l.length l.length) l :=
  OwnN.nm (B := 0) (own_shut (cur := (nats l).toArray) (by simp) (Nat.zero_le _) h (Nat.le_refl _) hl (by simp) (List.take_of_length_le (by simp)))
/-- twigs in a block of their own. -/
theorem tw_block {w : World} {g : Nat} {l : List Tw} {cur : Array Value} (h : w.heap[g]? = some (.cells cur 45 (0, 0))) (he : cur = (tvs l).toArray) (hl : l.length ≤ maxLen) : TwAt w (.slice (some ⟨g, 0, none⟩) l.length l.length) l := by
  subst he
  exact TwOwn.tw (B := 0) (own_shut (cur := (tvs l).toArray) (by rw [flat_len twc_len]) (Nat.zero_le _) h (Nat.le_refl _) hl (by simp [flat_len twc_len]) (List.take_of_length_le (by rw [flat_len twc_len]; exact Nat.le_refl _)))
set_option maxRecDepth 100000 in
set_option maxHeartbeats 1000000 in
theorem sameInts_any (v v' : Value) (t : List Nat) (w : World) (h : NmAt w v t) (h' : NmAt w v' t) :
    Calls Tryz.prog 15 #[v, v'] w fun e w' => e = .returned (.bool true) ∧ Below w.heap.size w w' := by
  obtain ⟨ao, cap, rfl, hlc, hm, hc⟩ := h
  obtain ⟨ao', cap', rfl, hlc', hm', hc'⟩ := h'
  obtain ⟨n, hn⟩ : ∃ n, n = t.length := ⟨_, rfl⟩
  have Hn := Lib.hid hn
  have HC := Lib.hid hc
  have HC' := Lib.hid hc'
  rw [← hn] at hlc hlc' ⊢
  have hn2 : n ≤ 9223372036854775807 := by unfold maxLen at hm; omega
  clear hn hm hm' hc hc'
  go_enter Tryz.func15, Tryz.ntmps15
  go_wp2
  go_loopw [5] (fun i wr => ∃ k : Nat, k ≤ n ∧ i = .int .i64 k ∧ Below w.heap.size w wr) (fun i _ => n - (intOf i).toNat)
  case atStart => exact ⟨0, by omega, rfl, Below.refl _ _⟩
  case round =>
    obtain ⟨k, hk, rfl, hbel⟩ := hrel
    by_cases hlt : k < n
    · have hlt' : (k : Int) < n := by omega
      obtain ⟨b, off, rfl, -, e0⟩ := HC.out k (by rw [← Hn.out]; exact hlt)
      obtain ⟨b', off', rfl, -, g0⟩ := HC'.out k (by rw [← Hn.out]; exact hlt)
      have e0 := cell_later hbel e0
      have g0 := cell_later hbel g0
      obtain ⟨x, hx⟩ : ∃ x, x = t[k]'(by rw [← Hn.out]; exact hlt) := ⟨_, rfl⟩
      rw [← hx] at e0 g0
      clear hx
      go_wp2_with fail
      go_quiet (fail)
      go_wp2
      go_roundw
      case rel => exact ⟨k + 1, by omega, by go_num, below_draws hbel _⟩
      case measure => simp [intOf]; omega
    · have hlt' : ¬ (k : Int) < n := by omega
      go_wp2
      go_ret
      exact ⟨rfl, hbel⟩
set_option maxHeartbeats 400000 in
theorem twig_any (fr tz k : Int) (w : World) :
    Calls Tryz.prog 30 #[.int .i64 fr, .int .i64 tz, .int .i64 k] w fun e w' => e = .returned (.agg #[.int .i64 0, .int .i64 0, .int .i64 fr, .int .i64 tz, .int .i64 k]) ∧ Below w.heap.size w w' := by
  go_enter Tryz.func30, Tryz.ntmps30
  go_wp2
  refine bodyPost_ret (v := .agg #[.int .i64 0, .int .i64 0, .int .i64 fr, .int .i64 tz, .int .i64 k]) (by simp [results, Tryz.f30, go_sem]) rfl ⟨rfl, ?_⟩
  exact (Below.refl _ _).alloc (Nat.le_refl _) _
end Go.Proofs.YtadkjjpopmiceaaGreat
