/-
  Place: the plain words.
-/
import Derived.Test.YthapnknhodjepaaLib
namespace Go.Proofs.Ythapnknhodjepaa
open Go.RowKit

/-- an index in memory: where lines begin, how many bytes. -/
def IdxAt (w : World) (x : Nat) (L : List Nat) (n : Nat) : Prop :=
  ∃ bb cap, w.cell? ⟨x, 0, none⟩ = some (.slice (some ⟨bb, 0, none⟩) L.length cap) ∧ w.cell? ⟨x, 1, none⟩ = some (.int .i64 n) ∧ 0 < L.length ∧ L.length ≤ 1000001 ∧ ∀ k (h : k < L.length), w.cell? ⟨bb, k, none⟩ = some (.int .i64 L[k])

theorem IdxAt.later {w w' : World} {x : Nat} {L : List Nat} {n : Nat} (h : IdxAt w x L n) (hb : Below w.heap.size w w') : IdxAt w' x L n := by
  obtain ⟨bb, cap, h0, h1, hp, hl, hc⟩ := h
  exact ⟨bb, cap, cell_later hb h0, cell_later hb h1, hp, hl, fun k hk => cell_later hb (hc k hk)⟩

/-- behind which bytes lines begin, of the first k bytes. -/
def nls (t : List UInt8) : Nat → List Nat
  | 0 => [0]
  | k + 1 => if t[k]? = some 10 then nls t k ++ [k + 1] else nls t k

theorem nls_len (t : List UInt8) (k : Nat) : 0 < (nls t k).length ∧ (nls t k).length ≤ k + 1 := by
  induction k with
  | zero => simp [nls]
  | succ k ih => simp only [nls]; split <;> (try simp) <;> omega

end Go.Proofs.Ythapnknhodjepaa
