/-
  Slices of elements of several cells: rows flattened; rows that are owned.
-/
import Derived.Test.YtkimkghldilliaaGreatKeep
import Derived.Test.YtkimkghldilliaaGreatOpen
namespace Go.Proofs.YtkimkghldilliaaGreat
open Go.RowKit

theorem flat_len {α : Type} {f : α → List Value} {C : Nat} (hf : ∀ x, (f x).length = C) : ∀ l : List α, (l.flatMap f).length = l.length * C
  | [] => by simp
  | x :: r => by rw [List.flatMap_cons, List.length_append, flat_len hf r, hf, List.length_cons, Nat.add_mul]; omega
theorem flat_get {α : Type} {f : α → List Value} {C : Nat} (hf : ∀ x, (f x).length = C) : ∀ (l : List α) (i c : Nat) (h : i < l.length), c < C → (l.flatMap f)[i * C + c]? = (f l[i])[c]?
  | [], _, _, h, _ => by simp at h
  | x :: r, 0, c, _, hc => by
    rw [List.flatMap_cons, List.getElem?_append_left (by rw [hf]; omega)]
    simp
  | x :: r, i + 1, c, h, hc => by
    have e : (i + 1) * C + c = C + (i * C + c) := by rw [Nat.add_mul]; omega
    rw [List.flatMap_cons, e, List.getElem?_append_right (by rw [hf]; omega), hf, Nat.add_sub_cancel_left, flat_get hf r i c (by simpa using h) hc]
    simp
theorem flat_one {α : Type} {f : α → List Value} (hf : ∀ x, ∀ u ∈ f x, u.oneCell' = true) (l : List α) : ∀ u ∈ l.flatMap f, u.oneCell' = true := by
  intro u hu
  obtain ⟨x, _, h⟩ := List.mem_flatMap.1 hu
  exact hf x u h
/-- what a slice that is read holds, as an append's news. -/
theorem rows_news {α : Type} {f : α → List Value} {C : Nat} (hf : ∀ x, (f x).length = C) (hC : 0 < C) {w : World} {ao : Option Addr} {n cap : Nat} {l : List α} (h : RowsAt w C (.slice ao n cap) (l.map f)) :
    n = l.length ∧ l.length ≤ cap ∧ cap ≤ maxLen ∧ (ao = none → n = 0 ∧ cap = 0) ∧ ∀ ad, ao = some ad → ∀ j u, (l.flatMap f)[j]? = some u → w.cell? (ad.add j) = some u := by
  obtain ⟨ao', b, off, cap', he, hl, hm, hn, ha, _, hc⟩ := h
  simp only [Value.slice.injEq, List.length_map] at he hl hn ha hc
  obtain ⟨rfl, rfl, rfl⟩ := he
  refine ⟨rfl, hl, hm, hn, fun ad had j u hj => ?_⟩
  have hjl := (List.getElem?_eq_some_iff.1 hj).1
  rw [flat_len hf] at hjl
  have h0 : 0 < l.length := by
    rcases Nat.eq_zero_or_pos l.length with h | h
    · rw [h] at hjl; omega
    · exact h
  have h1 := (ha h0).1
  rw [had] at h1
  simp only [Option.some.injEq] at h1
  subst h1
  have hd : j / C < l.length := Nat.div_lt_of_lt_mul (by rw [Nat.mul_comm]; exact hjl)
  have hm2 : j % C < C := Nat.mod_lt _ hC
  have e : j = j / C * C + j % C := by rw [Nat.mul_comm]; exact (Nat.div_add_mod j C).symm
  have h2 := hc (j / C) hd (j % C) hm2
  rw [List.getElem_map] at h2
  have h3 := flat_get hf l (j / C) (j % C) hd hm2
  rw [← e, hj] at h3
  rw [add_none, show off + j = off + j / C * C + j % C by omega, h2, h3]
/-- a row that is owned, read. -/
theorem own_rows {α : Type} {f : α → List Value} {C : Nat} (hf : ∀ x, (f x).length = C) {w : World} {base : Nat} {e : TypeId} {v : Value} {n : Nat} {l : List α} (hn : n = l.length) (h : w.ownsRow base e C v n (l.flatMap f)) : RowsAt w C v (l.map f) := by
  subst hn
  rcases h.2 with ⟨rfl, h0⟩ | ⟨g, cap, cur, rfl, _, hg, hnc, hcm, hcs, ht⟩
  · exact ⟨none, 0, 0, 0, by simp [h0], by simp [h0], by unfold maxLen; omega, fun _ => by simp [h0], fun h => by simp [h0] at h, fun e he => by obtain ⟨x, _, rfl⟩ := List.mem_map.1 he; exact hf x, fun i hi => by simp [h0] at hi⟩
  · refine ⟨_, g, 0, cap, by simp, by simpa using hnc, hcm, fun h => by simp at h, fun _ => ⟨rfl, lt_of_block hg⟩, fun e he => by obtain ⟨x, _, rfl⟩ := List.mem_map.1 he; exact hf x, fun i hi j hj => ?_⟩
    simp only [List.length_map] at hi
    rw [(block_cell' hg _).1, List.getElem_map, ← flat_get hf l i j hi hj, Nat.zero_add]
    have hlt : i * C + j < l.length * C := by
      have h1 : (i + 1) * C ≤ l.length * C := Nat.mul_le_mul_right C hi
      rw [Nat.add_mul] at h1
      omega
    rw [← ht, List.getElem?_take_of_lt hlt]
    simp
theorem RowsAt.val {w : World} {C : Nat} {v : Value} {es : List (List Value)} (h : RowsAt w C v es) : ∃ ao cap, v = .slice ao es.length cap := by
  obtain ⟨ao, _, _, cap, h, _⟩ := h
  exact ⟨ao, cap, h⟩
theorem RowsAt.keeps {S : Nat → Prop} {w w' : World} {C : Nat} (hC : 0 < C) {v : Value} {es : List (List Value)} (h : RowsAt w C v es) (hk : Keeps S w w') (hn : ∀ k, (∃ off n cap, v = .slice (some ⟨k, off, none⟩) n cap) → ¬ S k) : RowsAt w' C v es := by
  obtain ⟨ao, b, off, cap, rfl, hl, hm, hnn, ha, he, hc⟩ := h
  refine ⟨ao, b, off, cap, rfl, hl, hm, hnn, fun h => ⟨(ha h).1, Nat.lt_of_lt_of_le (ha h).2 hk.size⟩, he, fun i hi j hj => ?_⟩
  have h0 := hc i hi j hj
  have h1 := ha (by omega)
  have hle : j < es[i].length := by rw [he _ (List.getElem_mem hi)]; exact hj
  rw [List.getElem?_eq_getElem hle] at h0 ⊢
  exact hk.cell (p := ⟨b, _, none⟩) h0 (hn b ⟨off, es.length, cap, by rw [h1.1]⟩)
/-- a block of an owned row whose whole capacity is known. -/
theorem own_full {w : World} {base g n : Nat} {e : TypeId} {C : Nat} {xs : List Value} (h : w.ownsRow base e C (.slice (some ⟨g, 0, none⟩) n n) n xs) : w.heap[g]? = some (.cells xs.toArray e (0, 0)) := by
  rcases h.2 with ⟨h0, _⟩ | ⟨g', cap, cur, hv, _, hg, _, _, hs, ht⟩
  · simp at h0
  · simp only [Value.slice.injEq, Option.some.injEq, Addr.mk.injEq, and_true, true_and] at hv
    obtain ⟨rfl, rfl⟩ := hv
    rw [hg, ← ht]
    congr 2
    rw [List.take_of_length_le (by simp [hs])]
theorem cell_new_list (w : World) (l : List Value) (e : TypeId) : ∀ j u, l[j]? = some u → (w.alloc (.cells l.toArray e)).cell? ((⟨w.heap.size, 0, none⟩ : Addr).add j) = some u := by
  intro j u hj
  rw [add_none, Nat.zero_add, cell_alloc_new]
  simpa using hj
end Go.Proofs.YtkimkghldilliaaGreat
