import Derived.Test.YtpchjpmkkiopiaaHpTm
namespace Go.Proofs.Ytpchjpmkkiopiaa
open Go.RowKit Go.Lib

theorem take_last {L : List En} {n : Nat} (h : L.length = n + 1) : L.take n ++ [pos L n] = L := by
  rw [pos_get (by omega), ← List.take_succ_eq_append_getElem (by omega), List.take_of_length_le (by omega)]
theorem pos_take {L : List En} {n k : Nat} (hk : k < n) (h : n ≤ L.length) : pos (L.take n) k = pos L k := by
  rw [pos_get (by simp; omega), pos_get (by omega), List.getElem_take]
end Go.Proofs.Ytpchjpmkkiopiaa
