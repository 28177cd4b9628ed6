/-
  A row of things of C cells each that the call owns: a thing's cells, a shorter row, a cell that is set.
-/
import Derived.Test.YtkimkghldilliaaGreatFlat
namespace Go.Proofs.YtkimkghldilliaaGreat
open Go.RowKit Go.Lib

theorem own_open {w : World} {base g n cap C : Nat} {t : TypeId} {xs : List Value} (h : w.ownsRow base t C (.slice (some ⟨g, 0, none⟩) n cap) n xs) :
    xs.length = n * C ∧ base ≤ g ∧ ∃ cur, w.heap[g]? = some (.cells cur t (0, 0)) ∧ n ≤ cap ∧ cap ≤ maxLen ∧ cur.size = cap * C ∧ cur.toList.take (n * C) = xs := by
  obtain ⟨g', cap', cur, hv, hb, hg, h1, h2, h3, ht⟩ := h.2.resolve_left (fun h => by simp at h)
  simp only [Value.slice.injEq, Option.some.injEq, Addr.mk.injEq] at hv
  obtain ⟨⟨rfl, -⟩, -, rfl⟩ := hv
  exact ⟨h.1, hb, cur, hg, h1, h2, h3, ht⟩
theorem own_shut {w : World} {base g n cap C : Nat} {t : TypeId} {xs : List Value} {cur : Array Value} (h0 : xs.length = n * C) (hb : base ≤ g) (hg : w.heap[g]? = some (.cells cur t (0, 0))) (h1 : n ≤ cap) (h2 : cap ≤ maxLen) (h3 : cur.size = cap * C) (ht : cur.toList.take (n * C) = xs) :
    w.ownsRow base t C (.slice (some ⟨g, 0, none⟩) n cap) n xs := ⟨h0, .inr ⟨g, cap, cur, rfl, hb, hg, h1, h2, h3, ht⟩⟩
theorem own_cap {w : World} {base n cap C : Nat} {ao : Option Addr} {t : TypeId} {xs : List Value} (h : w.ownsRow base t C (.slice ao n cap) n xs) : n ≤ cap ∧ cap ≤ maxLen := by
  rcases h.2 with ⟨e, h0⟩ | ⟨g', cap', cur, hv, hb, hg, h1, h2, h3, ht⟩
  · simp only [Value.slice.injEq] at e
    obtain ⟨-, rfl, rfl⟩ := e
    exact ⟨Nat.le_refl _, Nat.zero_le _⟩
  · simp only [Value.slice.injEq] at hv
    obtain ⟨-, -, rfl⟩ := hv
    exact ⟨h1, h2⟩
theorem own_cellC {α : Type} {f : α → List Value} {C : Nat} (hf : ∀ x, (f x).length = C) {w : World} {base g n cap : Nat} {t : TypeId} {L : List α} (h : w.ownsRow base t C (.slice (some ⟨g, 0, none⟩) n cap) n (L.flatMap f)) (i : Nat) (hi : i < L.length) (j : Nat) (hj : j < C) :
    w.cell? ⟨g, i * C + j, none⟩ = (f L[i])[j]? ∧ w.frozen? ⟨g, i * C + j, none⟩ = false := by
  obtain ⟨h0, hb, cur, hg, h1, h2, h3, ht⟩ := own_open h
  refine ⟨?_, (block_cell' hg _).2⟩
  rw [(block_cell' hg _).1, ← flat_get hf L i j hi hj, ← ht]
  have hl : L.length = n := by
    rw [flat_len hf] at h0
    exact Nat.eq_of_mul_eq_mul_right (by omega) h0
  have : i * C + j < n * C := by
    have h4 : (i + 1) * C ≤ n * C := Nat.mul_le_mul_right _ (by omega)
    have h5 : (i + 1) * C = i * C + C := Nat.succ_mul i C
    omega
  rw [List.getElem?_take_of_lt this]
  simp
theorem flat_takeC {α : Type} {f : α → List Value} {C : Nat} (hf : ∀ x, (f x).length = C) : ∀ (L : List α) (n : Nat), (L.flatMap f).take (n * C) = (L.take n).flatMap f
  | [], n => by simp
  | a :: r, 0 => by simp
  | a :: r, n + 1 => by
    have ih := flat_takeC hf r n
    rw [List.take_succ_cons, List.flatMap_cons, List.flatMap_cons, ← ih, Nat.succ_mul, List.take_append, hf a]
    congr 1
    · exact List.take_of_length_le (by rw [hf a]; omega)
    · congr 1; omega
theorem own_takeC {α : Type} {f : α → List Value} {C : Nat} (hf : ∀ x, (f x).length = C) (hC : 0 < C) {w : World} {base g n cap n1 : Nat} {t : TypeId} {L : List α} (h : w.ownsRow base t C (.slice (some ⟨g, 0, none⟩) n cap) n (L.flatMap f)) (hn : n1 ≤ n) : w.ownsRow base t C (.slice (some ⟨g, 0, none⟩) n1 cap) n1 ((L.take n1).flatMap f) := by
  obtain ⟨h0, hb, cur, hg, h1, h2, h3, ht⟩ := own_open h
  have hl : L.length = n := by
    rw [flat_len hf] at h0
    exact Nat.eq_of_mul_eq_mul_right hC h0
  refine own_shut (by rw [flat_len hf, List.length_take, hl, Nat.min_eq_left hn]) hb hg (by omega) h2 h3 ?_
  rw [← flat_takeC hf, ← ht, List.take_take, Nat.min_eq_left (Nat.mul_le_mul_right _ hn)]
theorem flat_setC {α : Type} {f : α → List Value} {C : Nat} (hf : ∀ x, (f x).length = C) (x : α) (u : Value) (j : Nat) (hj : j < C) : ∀ (L : List α) (i : Nat) (hi : i < L.length), f x = (f L[i]).set j u → (L.flatMap f).set (i * C + j) u = (L.set i x).flatMap f
  | [], i, h, _ => by simp at h
  | a :: r, 0, _, hx => by
    simp only [List.flatMap_cons, List.set_cons_zero, Nat.zero_mul, Nat.zero_add]
    rw [List.set_append_left _ _ (by rw [hf]; exact hj)]
    simp at hx
    rw [hx]
  | a :: r, i + 1, h, hx => by
    have ih := flat_setC hf x u j hj r i (by simpa using h) (by simpa using hx)
    simp only [List.flatMap_cons, List.set_cons_succ]
    rw [List.set_append_right _ _ (by rw [hf, Nat.succ_mul]; omega), ← ih, hf a, Nat.succ_mul]
    congr 2
    omega
theorem own_setC {α : Type} {f : α → List Value} {C : Nat} (hf : ∀ x, (f x).length = C) {w : World} {base g n cap : Nat} {t : TypeId} {L : List α} (h : w.ownsRow base t C (.slice (some ⟨g, 0, none⟩) n cap) n (L.flatMap f)) (i : Nat) (hi : i < L.length) (j : Nat) (hj : j < C) (x : α) (u : Value) (hx : f x = (f L[i]).set j u) :
    (w.setCell ⟨g, i * C + j, none⟩ u).ownsRow base t C (.slice (some ⟨g, 0, none⟩) n cap) n ((L.set i x).flatMap f) := by
  obtain ⟨h0, hb, cur, hg, h1, h2, h3, ht⟩ := own_open h
  refine own_shut (by rw [flat_len hf] at h0 ⊢; simpa using h0) hb (block_setCell' hg) h1 h2 (by simpa using h3) ?_
  rw [Array.toList_setIfInBounds, List.take_set, ht]
  exact flat_setC hf x u j hj L i hi hx
/-- an own row, read. -/
theorem own_rowsC {α : Type} {f : α → List Value} {C : Nat} (hf : ∀ x, (f x).length = C) (hC : 0 < C) {w : World} {base n cap : Nat} {ao : Option Addr} {t : TypeId} {L : List α} (h : w.ownsRow base t C (.slice ao n cap) n (L.flatMap f)) : n = L.length := by
  have h0 := h.1
  rw [flat_len hf] at h0
  exact (Nat.eq_of_mul_eq_mul_right hC h0).symm
end Go.Proofs.YtkimkghldilliaaGreat
