import Derived.Test.YtadkjjpopmiceaaGreatTbdm
namespace Go.Proofs.YtadkjjpopmiceaaGreat
open Go.RowKit Go.Lib

theorem atT_get' {l : List Tw} {n : Nat} (h : n < l.length) : atT l n = l[n] := by simp [atT, h]
/-- a twig's span in memory. -/
theorem TwAt.span {w : World} {ao : Option Addr} {n cap : Nat} {l : List Tw} (h : TwAt w (.slice ao n cap) l) {i : Nat} (hi : i < l.length) : ∃ b off, ao = some ⟨b, off, none⟩ ∧ b < w.heap.size ∧
    w.cell? ⟨b, off + i * 5 + 2, none⟩ = some (.int .i64 (atT l i).fr) ∧ w.cell? ⟨b, off + i * 5 + 3, none⟩ = some (.int .i64 (atT l i).to) ∧ w.cell? ⟨b, off + i * 5 + 4, none⟩ = some (.int .i64 (atT l i).kids) := by
  obtain ⟨b, off, h1, h2, -, -, h3, h4, h5⟩ := h.cells.2.2.2.2 i hi
  rw [atT_get' hi]
  exact ⟨b, off, h1, h2, h3, h4, h5⟩
theorem NmAt.val {w : World} {v : Value} {l : List Nat} (h : NmAt w v l) : ∃ ao cap, v = .slice ao l.length cap ∧ l.length ≤ cap ∧ cap ≤ maxLen := by
  obtain ⟨ao, cap, h0, h1, h2, -⟩ := h
  exact ⟨ao, cap, h0, h1, h2⟩
theorem NmAt.cells {w : World} {ao : Option Addr} {n cap : Nat} {l : List Nat} (h : NmAt w (.slice ao n cap) l) {i : Nat} (hi : i < l.length) : ∃ b off, ao = some ⟨b, off, none⟩ ∧ b < w.heap.size ∧ w.cell? ⟨b, off + i, none⟩ = some (.int .i64 (l[i] : Int)) := by
  obtain ⟨ao', cap', h0, -, -, h1⟩ := h
  simp only [Value.slice.injEq] at h0
  obtain ⟨rfl, -, rfl⟩ := h0
  exact h1 i hi
theorem NmAt.len {w : World} {ao : Option Addr} {n cap : Nat} {l : List Nat} (h : NmAt w (.slice ao n cap) l) : n = l.length ∧ n ≤ cap ∧ cap ≤ 9223372036854775807 := by
  obtain ⟨ao', cap', h0, h1, h2, -⟩ := h
  simp only [Value.slice.injEq] at h0
  obtain ⟨rfl, rfl, rfl⟩ := h0
  exact ⟨rfl, h1, by unfold maxLen at h2; omega⟩
end Go.Proofs.YtadkjjpopmiceaaGreat
