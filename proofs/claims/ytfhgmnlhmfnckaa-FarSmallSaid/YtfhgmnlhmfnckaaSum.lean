/-
  What was missed: a row of places and classes, summed up: the farthest place, what is hoped for there.
-/
import Derived.Test.YtfhgmnlhmfnckaaFar
namespace Go.Proofs.Ytfhgmnlhmfnckaa

/-- a place, a class. -/
abbrev Miss := Int × (Nat → Bool)
def maxM (M : List Miss) : Int := M.foldl (fun m q => max m q.1) (-1)
def hopM (M : List Miss) (x : Int) : Nat → Bool := fun b => M.any fun q => decide (q.1 = x) && q.2 b
def sumP (M : List Miss) : Part := M.foldl (fun p q => missP p q.1 q.2) (-1, clNone)
theorem maxM_snoc (M : List Miss) (q : Miss) : maxM (M ++ [q]) = max (maxM M) q.1 := by simp [maxM, List.foldl_append]
theorem sumP_snoc (M : List Miss) (q : Miss) : sumP (M ++ [q]) = missP (sumP M) q.1 q.2 := by simp [sumP, List.foldl_append]
theorem hopM_append (M N : List Miss) (x : Int) : hopM (M ++ N) x = clOr (hopM M x) (hopM N x) := by funext b; simp [hopM, clOr]
theorem maxM_append (M N : List Miss) : maxM (M ++ N) = max (maxM M) (maxM N) := by
  have h : ∀ (N : List Miss) (a : Int), N.foldl (fun m q => max m q.1) a = max a (N.foldl (fun m q => max m q.1) a) := by
    intro N
    induction N with
    | nil => intro a; simp
    | cons q r ih => intro a; rw [List.foldl_cons, ih]; omega
  have h2 : ∀ (N : List Miss) (a : Int), -1 ≤ a → N.foldl (fun m q => max m q.1) a = max a (N.foldl (fun m q => max m q.1) (-1)) := by
    intro N
    induction N with
    | nil => intro a ha; simp; omega
    | cons q r ih =>
      intro a ha
      rw [List.foldl_cons, List.foldl_cons, ih _ (by omega), ih (max (-1) q.1) (by omega)]
      omega
  unfold maxM
  rw [List.foldl_append, h2]
  have := h M (-1)
  omega
theorem maxM_ge (M : List Miss) : -1 ≤ maxM M := by
  have := maxM_append [] M
  simp only [List.nil_append] at this
  have e : maxM [] = -1 := rfl
  rw [e] at this
  omega
theorem maxM_one (q : Miss) : maxM [q] = max (-1) q.1 := rfl
theorem maxM_mem {M : List Miss} {q : Miss} (h : q ∈ M) : q.1 ≤ maxM M := by
  obtain ⟨a, b, rfl⟩ := List.append_of_mem h
  have e : a ++ q :: b = a ++ ([q] ++ b) := rfl
  rw [e, maxM_append, maxM_append, maxM_one]
  omega
theorem hopM_above {M : List Miss} {x : Int} (h : maxM M < x) : hopM M x = clNone := by
  funext b
  simp only [hopM, clNone, List.any_eq_false]
  intro q hq
  have := maxM_mem hq
  have hne : q.1 ≠ x := by omega
  simp [hne]
theorem hopM_one (q : Miss) : hopM [q] q.1 = q.2 := by funext b; simp [hopM]
theorem hopM_one_ne {q : Miss} {x : Int} (h : q.1 ≠ x) : hopM [q] x = clNone := by funext b; simp [hopM, h, clNone]
theorem clOr_none (s : Nat → Bool) : clOr s clNone = s := by funext b; simp [clOr, clNone]
theorem none_clOr (s : Nat → Bool) : clOr clNone s = s := by funext b; simp [clOr, clNone]
theorem sumP_eq (M : List Miss) (hM : ∀ q ∈ M, 0 ≤ q.1) : sumP M = (maxM M, hopM M (maxM M)) := by
  have main : ∀ n (M : List Miss), M.length = n → (∀ q ∈ M, 0 ≤ q.1) → sumP M = (maxM M, hopM M (maxM M)) := by
    intro n
    induction n with
    | zero =>
      intro M hl _
      obtain rfl := List.eq_nil_of_length_eq_zero hl
      rfl
    | succ n ih =>
      intro M hl hM
      have hne : M ≠ [] := by intro h; subst h; simp at hl
      obtain ⟨N, q, rfl⟩ : ∃ N q, M = N ++ [q] := ⟨M.dropLast, M.getLast hne, (List.dropLast_concat_getLast hne).symm⟩
      simp only [List.length_append, List.length_singleton] at hl
      rw [sumP_snoc, ih N (by omega) (fun q hq => hM q (by simp [hq])), maxM_snoc, hopM_append]
      have hq : 0 ≤ q.1 := hM q (by simp)
      unfold missP
      simp only
      by_cases h1 : maxM N < q.1
      · rw [if_pos h1]
        have e : max (maxM N) q.1 = q.1 := by omega
        rw [e, hopM_above h1, hopM_one, none_clOr]
      · rw [if_neg h1]
        have e : max (maxM N) q.1 = maxM N := by omega
        rw [e]
        by_cases h2 : q.1 = maxM N
        · rw [if_pos h2, ← h2, hopM_one]
        · rw [if_neg h2, hopM_one_ne h2, clOr_none]
  exact main _ M rfl hM
/-- a part's sum goes into that of the one around it. -/
theorem sumP_append (M N : List Miss) (hM : ∀ q ∈ M, 0 ≤ q.1) (hN : ∀ q ∈ N, 0 ≤ q.1) : sumP (M ++ N) = if (sumP N).1 < 0 then sumP M else missP (sumP M) (sumP N).1 (sumP N).2 := by
  have hMN : ∀ q ∈ M ++ N, 0 ≤ q.1 := by
    intro q hq
    rcases List.mem_append.1 hq with h | h
    · exact hM q h
    · exact hN q h
  rw [sumP_eq _ hMN, sumP_eq M hM, sumP_eq N hN, maxM_append, hopM_append]
  simp only
  by_cases h : maxM N < 0
  · rw [if_pos h]
    have hn : N = [] := by
      cases N with
      | nil => rfl
      | cons q r =>
        have h1 := maxM_mem (M := q :: r) (q := q) (by simp)
        have h2 := hN q (by simp)
        omega
    subst hn
    have e : max (maxM M) (maxM []) = maxM M := by have := maxM_ge M; have e0 : maxM [] = -1 := rfl; omega
    rw [e]
    have e2 : hopM [] (maxM M) = clNone := rfl
    rw [e2, clOr_none]
  · rw [if_neg h]
    unfold missP
    simp only
    by_cases h1 : maxM M < maxM N
    · rw [if_pos h1]
      have e : max (maxM M) (maxM N) = maxM N := by omega
      rw [e, hopM_above h1, none_clOr]
    · rw [if_neg h1]
      have e : max (maxM M) (maxM N) = maxM M := by omega
      rw [e]
      by_cases h2 : maxM N = maxM M
      · rw [if_pos h2, h2]
      · rw [if_neg h2, hopM_above (M := N) (by omega), clOr_none]
theorem maxM_reverse (M : List Miss) : maxM M.reverse = maxM M := by
  induction M with
  | nil => rfl
  | cons q r ih =>
    have e : q :: r = [q] ++ r := rfl
    rw [List.reverse_cons, maxM_append, ih, e, maxM_append]
    omega
theorem hopM_reverse (M : List Miss) (x : Int) : hopM M.reverse x = hopM M x := by funext b; simp [hopM]
end Go.Proofs.Ytfhgmnlhmfnckaa
