/-
  A growth, plainly: where it stops, what was read, what is missed.
-/
import Derived.Test.YtebgleehmgmfbaaAskG
namespace Go.Proofs.Ytebgleehmgmfbaa
open Go.RowKit Go.Lib

/-- the answer of a number goes further on. -/
def onA (l : List An) (n : Nat) : Prop := (atA l n).err = 0 ∧ (atA l n).is = true ∧ (n = 0 ∨ (atA l (n - 1)).en < (atA l n).en)
instance (l : List An) (n : Nat) : Decidable (onA l n) := by unfold onA; infer_instance
theorem onA_end (l : List An) : ¬ onA l l.length := by
  unfold onA
  rw [atA_ge (Nat.lt_irrefl _)]
  simp [An.none]
/-- where it stops. -/
def Stops (l : List An) (T : Nat) : Prop := (∀ i, i < T → onA l i) ∧ ¬ onA l T
theorem stops_some (l : List An) : ∃ T, T ≤ l.length ∧ Stops l T := by
  have : ∀ n, (∀ i, i < n → onA l i) ∨ ∃ T, T < n ∧ Stops l T := by
    intro n
    induction n with
    | zero => exact .inl fun i hi => by omega
    | succ n ih =>
      rcases ih with h | ⟨T, h1, h2⟩
      · by_cases hn : onA l n
        · refine .inl fun i hi => ?_
          rcases Nat.lt_or_ge i n with h' | h'
          · exact h i h'
          · obtain rfl : i = n := by omega
            exact hn
        · exact .inr ⟨n, by omega, h, hn⟩
      · exact .inr ⟨T, by omega, h2⟩
  rcases this l.length with h | ⟨T, h1, h2⟩
  · exact ⟨l.length, Nat.le_refl _, h, onA_end l⟩
  · exact ⟨T, by omega, h2⟩
def rdA (l : List An) (lev : Int) (i : Nat) : Rd := if i = 0 then (0, 0, 2) else ((atA l (i - 1)).en, lev, 3)
def rdsA (l : List An) (lev : Int) (n : Nat) : List Rd := (List.range n).map (rdA l lev)
theorem rdsA_len (l : List An) (lev : Int) (n : Nat) : (rdsA l lev n).length = n := by simp [rdsA]
theorem rdsA_succ (l : List An) (lev : Int) (n : Nat) : rdsA l lev (n + 1) = rdsA l lev n ++ [rdA l lev n] := by simp [rdsA, List.range_succ]
def treesA (l : List An) (n : Nat) : List (List Tw) := (List.range n).map fun i => (atA l i).tree
theorem treesA_succ (l : List An) (n : Nat) : treesA l (n + 1) = treesA l n ++ [(atA l n).tree] := by simp [treesA, List.range_succ]
def farA (l : List An) : Nat → Int
  | 0 => (atA l 0).far
  | n + 1 => max (farA l n) (atA l (n + 1)).far
/-- what was missed, once it was asked n times. -/
def farN (l : List An) (n : Nat) : Int := if n = 0 then 0 else farA l (n - 1)
theorem farN_next (l : List An) (n : Nat) : nextFar n (farN l n) (atA l n).far = farN l (n + 1) := by
  unfold nextFar farN
  cases n with
  | zero => simp [farA]
  | succ n => simp [farA]
/-- what the pair's seed is behind n growths. -/
def fdA (l : List An) (lev : Int) (n : Nat) (v : Value) : Fd := if n = 0 then Fd.none else ⟨true, (atA l (n - 1)).en, lev, (atA l (n - 1)).tree, v⟩
theorem rdOf_fdA (l : List An) (lev : Int) (n : Nat) (v : Value) : ((rdOf (fdA l lev n v) lev).1, (rdOf (fdA l lev n v) lev).2.1, (rdOf (fdA l lev n v) lev).2.2.2) = rdA l lev n := by
  unfold rdOf fdA rdA
  by_cases h : n = 0 <;> simp [h, Fd.none]
theorem fdA_grows (l : List An) (lev : Int) (n : Nat) (v : Value) (h : onA l n) : (fdA l lev n v).is = false ∨ ((fdA l lev n v).en < (atA l n).en ∧ lev = (fdA l lev n v).lev) := by
  unfold fdA
  by_cases h0 : n = 0
  · simp [h0, Fd.none]
  · rcases h.2.2 with h1 | h1
    · exact absurd h1 h0
    · simp [h0, h1]
theorem fdA_asked (l : List An) (lev : Int) (n : Nat) (v : Value) : n = 0 ∨ ((fdA l lev n v).is = true ∧ (fdA l lev n v).lev ≤ lev ∧ (fdA l lev n v).tree = (atA l (n - 1)).tree) := by
  unfold fdA
  by_cases h0 : n = 0
  · exact .inl h0
  · simp [h0]
end Go.Proofs.Ytebgleehmgmfbaa
