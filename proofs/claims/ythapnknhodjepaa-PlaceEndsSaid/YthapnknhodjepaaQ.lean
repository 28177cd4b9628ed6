/-
  Place: the plain law of lines and columns.
-/
import Derived.Test.YthapnknhodjepaaA
namespace Go.Proofs.Ythapnknhodjepaa

/-- the line of a place, from 1 on. -/
def lno (t : List UInt8) : Nat → Nat
  | 0 => 1
  | p + 1 => if t[p]? = some 10 then lno t p + 1 else lno t p
/-- where the line of a place begins. -/
def beg (t : List UInt8) : Nat → Nat
  | 0 => 0
  | p + 1 => if t[p]? = some 10 then p + 1 else beg t p

theorem nls_length (t : List UInt8) (p : Nat) : (nls t p).length = lno t p := by
  induction p with
  | zero => rfl
  | succ p ih => simp only [nls, lno]; split <;> simp [ih]

theorem lno_pos (t : List UInt8) (p : Nat) : 0 < lno t p := by
  rw [← nls_length]; exact (nls_len t p).1

theorem nls_getLast (t : List UInt8) (p : Nat) : (nls t p).getD (lno t p - 1) 0 = beg t p := by
  induction p with
  | zero => rfl
  | succ p ih =>
    have hl := nls_length t p
    have hp := lno_pos t p
    simp only [nls, lno, beg]
    split
    · simp [List.getElem?_append, hl]
    · exact ih

theorem lno_mono (t : List UInt8) (p q : Nat) (h : p ≤ q) : lno t p ≤ lno t q := by
  induction q with
  | zero => obtain rfl : p = 0 := by omega
            exact Nat.le_refl _
  | succ n ih2 =>
    rcases Nat.eq_or_lt_of_le h with rfl | h''
    · exact Nat.le_refl _
    · have := ih2 (by omega)
      simp only [lno]; split <;> omega

theorem nls_prefix (t : List UInt8) (p n : Nat) (h : p ≤ n) (k : Nat) (hk : k < lno t p) : (nls t n).getD k 0 = (nls t p).getD k 0 := by
  induction n with
  | zero => obtain rfl : p = 0 := by omega
            rfl
  | succ n ih =>
    rcases Nat.eq_or_lt_of_le h with rfl | h'
    · rfl
    · have ih := ih (by omega)
      have hm := lno_mono t p n (by omega)
      have hl := nls_length t n
      rw [← ih]
      simp only [nls]
      split
      · simp only [List.getD_eq_getElem?_getD]
        rw [List.getElem?_append_left (by rw [hl]; omega)]
      · rfl

theorem beg_le (t : List UInt8) (p : Nat) : beg t p ≤ p := by
  induction p with
  | zero => exact Nat.le_refl _
  | succ p ih => simp only [beg]; split <;> omega

/-- the line that begins at L[k] is line k+1, and begins just there. -/
theorem nls_at (t : List UInt8) (n k : Nat) (hk : k < lno t n) : (nls t n).getD k 0 ≤ n ∧ lno t ((nls t n).getD k 0) = k + 1 ∧ beg t ((nls t n).getD k 0) = (nls t n).getD k 0 ∧ (0 < k → 0 < (nls t n).getD k 0 ∧ t[(nls t n).getD k 0 - 1]? = some 10) := by
  induction n with
  | zero =>
    simp only [lno] at hk
    obtain rfl : k = 0 := by omega
    simp [nls, lno, beg]
  | succ n ih =>
    simp only [lno] at hk
    by_cases h10 : t[n]? = some 10
    · rw [if_pos h10] at hk
      simp only [nls, if_pos h10]
      by_cases hk2 : k < lno t n
      · have := ih hk2
        simp only [List.getD_eq_getElem?_getD]
        rw [List.getElem?_append_left (by rw [nls_length]; omega)]
        simp only [List.getD_eq_getElem?_getD] at this
        exact ⟨by omega, this.2⟩
      · obtain rfl : k = lno t n := by omega
        have hl := nls_length t n
        simp [List.getElem?_append, hl, lno, beg, h10]
    · rw [if_neg h10] at hk
      simp only [nls, if_neg h10]
      have := ih hk
      exact ⟨by omega, this.2⟩

/-- from where the line begins to the next one, all places are of that line. -/
theorem lno_within (t : List UInt8) (n k p : Nat) (hk : k < lno t n) (h1 : (nls t n).getD k 0 ≤ p) (h2 : p ≤ n) (h3 : k + 1 < lno t n → p < (nls t n).getD (k + 1) 0) : lno t p = k + 1 ∧ beg t p = (nls t n).getD k 0 := by
  have ha := nls_at t n k hk
  have hm := lno_mono t _ _ h1
  have hlp : lno t p = k + 1 := by
    rcases Nat.lt_or_ge (k + 1) (lno t p) with h | h
    · have hk1 : k + 1 < lno t n := Nat.lt_of_lt_of_le h (lno_mono t p n h2)
      have hb := nls_at t p (k + 1) h
      have := nls_prefix t p n h2 (k + 1) h
      have := h3 hk1
      omega
    · omega
  refine ⟨hlp, ?_⟩
  have hg := nls_getLast t p
  rw [hlp] at hg
  simp only [Nat.add_sub_cancel] at hg
  rw [← hg, nls_prefix t p n h2 k (by omega)]

theorem lineOf_lno (t : List UInt8) (n p k : Nat) (h2 : p ≤ n) (h : LineOf (nls t n) p k) : lno t p = k + 1 ∧ beg t p = (nls t n).getD k 0 := by
  obtain ⟨ha, hb, hc⟩ := h
  rw [nls_length] at ha hc
  exact lno_within t n k p ha (by omega) h2 (fun h => by have := hc h; omega)

/-- the next line begins behind this one. -/
theorem nls_lt (t : List UInt8) (n k : Nat) (hk : k + 1 < lno t n) : (nls t n).getD k 0 < (nls t n).getD (k + 1) 0 := by
  have h1 := nls_at t n k (by omega)
  have h2 := nls_at t n (k + 1) hk
  rcases Nat.lt_or_ge ((nls t n).getD k 0) ((nls t n).getD (k + 1) 0) with h | h
  · exact h
  · have := lno_mono t _ _ h
    omega

/-- the place of a line and a column. -/
def plc (t : List UInt8) (l c : Int) : Option Nat := (List.range (t.length + 1)).find? fun p => (lno t p : Int) == l && ((p - beg t p + 1 : Nat) : Int) == c

theorem plc_some (t : List UInt8) (l c : Int) (p : Nat) (hp : p ≤ t.length) (h1 : (lno t p : Int) = l) (h2 : ((p - beg t p + 1 : Nat) : Int) = c) : plc t l c = some p := by
  unfold plc
  rw [List.find?_range_eq_some]
  refine ⟨by simp; omega, by simp; omega, ?_⟩
  intro j hj
  simp only [Bool.not_eq_true', Bool.and_eq_false_iff, beq_eq_false_iff_ne]
  by_cases h : (lno t j : Int) = l
  · right
    have hlj : lno t j = lno t p := by omega
    have hg1 := nls_getLast t j
    have hg2 := nls_getLast t p
    rw [hlj] at hg1
    rw [nls_prefix t j p (by omega) _ (by have := lno_pos t p; omega)] at hg2
    have := beg_le t j
    have := beg_le t p
    omega
  · left; exact h

theorem plc_none (t : List UInt8) (l c : Int) (h : ∀ p, p ≤ t.length → (lno t p : Int) = l → ((p - beg t p + 1 : Nat) : Int) = c → False) : plc t l c = none := by
  unfold plc
  rw [List.find?_eq_none]
  intro p hp
  simp only [List.mem_range] at hp
  simp only [Bool.and_eq_true, beq_iff_eq, not_and]
  exact fun h1 h2 => h p (by omega) h1 h2

theorem plc_some_iff (t : List UInt8) (l c : Int) (p : Nat) (h : plc t l c = some p) : p ≤ t.length ∧ (lno t p : Int) = l ∧ ((p - beg t p + 1 : Nat) : Int) = c := by
  unfold plc at h
  have h1 := List.find?_some h
  have h2 := List.mem_of_find?_eq_some h
  simp only [List.mem_range, Bool.and_eq_true, beq_iff_eq] at h1 h2
  exact ⟨by omega, h1⟩

end Go.Proofs.Ythapnknhodjepaa
