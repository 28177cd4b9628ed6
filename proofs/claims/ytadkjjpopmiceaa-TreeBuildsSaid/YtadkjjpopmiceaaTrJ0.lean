/-
  Heights by a stack of ends, plainly.
-/
import Derived.Test.YtadkjjpopmiceaaTrC
namespace Go.Proofs.Ytadkjjpopmiceaa

/-- the ends of those that had not ended at n, the last one first. -/
def endsL (l : List Tw) (n : Nat) : List Nat := ((List.range n).reverse.filter fun p => decide (n ≤ aN l p)).map (aN l)
def popE (l : List Tw) (n : Nat) : List Nat := ((List.range n).reverse.filter fun p => decide (n < aN l p)).map (aN l)
theorem endsL_succ (l : List Tw) {n : Nat} (h : n < aN l n) : endsL l (n + 1) = aN l n :: popE l n := by
  unfold endsL popE
  rw [List.range_succ, List.reverse_append, List.reverse_singleton, List.singleton_append, List.filter_cons]
  rw [if_pos (by simp; omega)]
  simp only [List.map_cons]
  congr 1
theorem popE_len (l : List Tw) {n : Nat} (h : n < aN l n) : (aN l n :: popE l n).length = dep l 0 n := by
  unfold popE dep
  rw [show n + 1 - 0 = n + 1 from rfl, ← List.range_eq_range', List.range_succ, List.filter_append, List.length_append]
  simp [List.filter_reverse, h]
theorem nest {l : List Tw} (h : RightP l) {p q : Nat} (h1 : p < q) (h2 : q < aN l p) (hp : p < l.length) : aN l q ≤ aN l p := by
  obtain ⟨m, ks, hs⟩ : ∃ m ks, Sub l p m ks := by
    obtain ⟨rs, h⟩ := h
    obtain ⟨m, ks, hs, -⟩ := h.sub p (Nat.zero_le _) hp
    exact ⟨m, ks, hs⟩
  rw [hs.aN] at h2 ⊢
  exact (hs.2.2.2.aN_le (p := q) (by omega) h2).1
theorem ends_pop {l : List Tw} (h : RightP l) {n : Nat} (hn : n ≤ l.length) : (endsL l n).dropWhile (fun x => decide (x ≤ n)) = popE l n := by
  unfold endsL popE
  have hL : ∀ (L : List Nat), L.Pairwise (fun a b => b < a) → (∀ p ∈ L, p < n) → ((L.filter fun p => decide (n ≤ aN l p)).map (aN l)).dropWhile (fun x => decide (x ≤ n)) = (L.filter fun p => decide (n < aN l p)).map (aN l) := fun L => by
    induction L with
    | nil => intro _ _; rfl
    | cons p L ih =>
      intro hp hm
      rw [List.pairwise_cons] at hp
      have hpn := hm p (by simp)
      rw [List.filter_cons, List.filter_cons]
      by_cases h1 : n ≤ aN l p
      · rw [if_pos (by simpa using h1)]
        by_cases h2 : n < aN l p
        · rw [if_pos (by simpa using h2), List.map_cons, List.map_cons, List.dropWhile_cons, if_neg (by simpa using h2)]
          congr 2
          apply List.filter_congr
          intro q hq
          have h3 := hp.1 q hq
          have h4 := hm q (by simp [hq])
          by_cases h5 : n ≤ aN l q
          · have := nest h h3 (by omega) (by omega)
            simp
            omega
          · simp
            omega
        · rw [if_neg (by simpa using h2), List.map_cons, List.dropWhile_cons, if_pos (by simpa using h2)]
          exact ih hp.2 (fun q hq => hm q (by simp [hq]))
      · rw [if_neg (by simpa using h1), if_neg (by simp; omega)]
        exact ih hp.2 (fun q hq => hm q (by simp [hq]))
  refine hL _ ?_ (fun p hp => by simpa using hp)
  rw [List.pairwise_reverse]
  exact List.pairwise_lt_range
end Go.Proofs.Ytadkjjpopmiceaa
