/-
  Classes (sets of bytes) as predicates on numbers: the four words of a class, their bits.
-/
import Derived.Test.YtkimkghldilliaaGreatKeep
import Derived.Laws.Bits64b
import Derived.Laws.BitsAllLaws
namespace Go.Proofs.YtkimkghldilliaaGreat
open Go.RowKit

/-- the number whose bits below n are told by p. -/
def bitsN (p : Nat → Bool) : Nat → Nat
  | 0 => 0
  | n + 1 => bitsN p n + (if p n then 2 ^ n else 0)

theorem bitsN_lt (p : Nat → Bool) : ∀ n, bitsN p n < 2 ^ n
  | 0 => by simp [bitsN]
  | n + 1 => by
    have := bitsN_lt p n
    simp only [bitsN, Nat.pow_succ]
    split <;> omega

theorem testBit_bitsN (p : Nat → Bool) : ∀ n i, (bitsN p n).testBit i = (decide (i < n) && p i)
  | 0, i => by simp [bitsN]
  | n + 1, i => by
    have hlt := bitsN_lt p n
    have ih := testBit_bitsN p n i
    simp only [bitsN]
    by_cases hp : p n = true
    · simp only [hp, if_true]
      rw [Nat.add_comm]
      by_cases h : i = n
      · subst h
        rw [Nat.testBit_two_pow_add_eq, ih]; simp [hp]
      · by_cases h1 : i < n
        · rw [Nat.testBit_two_pow_add_gt h1, ih]
          have : i < n + 1 := by omega
          simp [h1, this]
        · have h2 : ¬ i < n + 1 := by omega
          rw [Nat.testBit_lt_two_pow]
          · simp [h2]
          · calc 2 ^ n + bitsN p n < 2 ^ n + 2 ^ n := by omega
              _ = 2 ^ (n + 1) := by rw [Nat.pow_succ]; omega
              _ ≤ 2 ^ i := Nat.pow_le_pow_right (by omega) (by omega)
    · simp only [hp, Bool.false_eq_true, if_false, Nat.add_zero]
      rw [ih]
      by_cases h : i = n
      · subst h; simp [hp]
      · by_cases h1 : i < n
        · have : i < n + 1 := by omega
          simp [h1, this]
        · have : ¬ i < n + 1 := by omega
          simp [h1, this]

/-- a number below 2^n is told by its bits. -/
theorem eq_bitsN {p : Nat → Bool} {n x : Nat} (hx : x < 2 ^ n) (h : ∀ i, i < n → x.testBit i = p i) : x = bitsN p n := by
  apply Nat.eq_of_testBit_eq
  intro i
  rw [testBit_bitsN]
  by_cases hi : i < n
  · simp [h i hi, hi]
  · have : x.testBit i = false := Nat.testBit_lt_two_pow (Nat.lt_of_lt_of_le hx (Nat.pow_le_pow_right (by omega) (by omega)))
    simp [hi, this]
theorem bitsN_congr {p q : Nat → Bool} {n : Nat} (h : ∀ i, i < n → p i = q i) : bitsN p n = bitsN q n :=
  eq_bitsN (bitsN_lt p n) fun i hi => by rw [testBit_bitsN]; simp [hi, h i hi]

/-- the words of a class. -/
def word (s : Nat → Bool) (k : Nat) : Nat := bitsN (fun i => s (64 * k + i)) 64
theorem word_lt (s : Nat → Bool) (k : Nat) : word s k < 18446744073709551616 := bitsN_lt _ 64
theorem word_bit (s : Nat → Bool) (k i : Nat) (hi : i < 64) : (word s k).testBit i = s (64 * k + i) := by
  unfold word; rw [testBit_bitsN]; simp [hi]
theorem word_congr {s t : Nat → Bool} {k : Nat} (h : ∀ i, i < 64 → s (64 * k + i) = t (64 * k + i)) : word s k = word t k := bitsN_congr h
theorem word_eq {s : Nat → Bool} {k x : Nat} (hx : x < 18446744073709551616) (h : ∀ i, i < 64 → x.testBit i = s (64 * k + i)) : x = word s k := eq_bitsN hx h

/-- a class's cells, its value. -/
def clc (s : Nat → Bool) : Array Value := #[.int .u64 (word s 0), .int .u64 (word s 1), .int .u64 (word s 2), .int .u64 (word s 3)]
def clv (s : Nat → Bool) : Value := .agg (clc s)
theorem clc_get (s : Nat → Bool) {k : Nat} (hk : k < 4) : (clc s)[k]? = some (.int .u64 (word s k)) := by
  rcases (by omega : k = 0 ∨ k = 1 ∨ k = 2 ∨ k = 3) with rfl | rfl | rfl | rfl <;> rfl
/-- a word is written. -/
theorem clc_set {s t : Nat → Bool} {k x : Nat} (hk : k < 4) (hx : x < 18446744073709551616) (h : ∀ i, i < 64 → x.testBit i = t (64 * k + i)) (ho : ∀ b, b < 256 → b / 64 ≠ k → t b = s b) :
    (clc s).setIfInBounds k (.int .u64 x) = clc t := by
  have hw := word_eq hx h
  have hj : ∀ j, j < 4 → j ≠ k → word t j = word s j := fun j hj hjk => word_congr fun i hi => ho _ (by omega) (by omega)
  rcases (by omega : k = 0 ∨ k = 1 ∨ k = 2 ∨ k = 3) with rfl | rfl | rfl | rfl <;>
    (simp only [clc, hw]; simp [hj])
theorem clc_congr {s t : Nat → Bool} (h : ∀ b, b < 256 → s b = t b) : clc s = clc t := by
  have hw : ∀ k, k < 4 → word s k = word t k := fun k hk => word_congr fun i hi => h _ (by omega)
  simp only [clc, hw 0 (by omega), hw 1 (by omega), hw 2 (by omega), hw 3 (by omega)]
theorem clc_inj {s t : Nat → Bool} (h : clc s = clc t) : ∀ b, b < 256 → s b = t b := by
  intro b hb
  simp only [clc, Array.mk.injEq, List.cons.injEq, Value.int.injEq, and_true, true_and] at h
  obtain ⟨h0, h1, h2, h3⟩ := h
  have hk : word s (b / 64) = word t (b / 64) := by
    rcases (by omega : b / 64 = 0 ∨ b / 64 = 1 ∨ b / 64 = 2 ∨ b / 64 = 3) with e | e | e | e <;> rw [e] <;> omega
  have := congrArg (fun x => x.testBit (b % 64)) hk
  simp only [word_bit _ _ _ (Nat.mod_lt _ (by omega : 64 > 0))] at this
  have e : 64 * (b / 64) + b % 64 = b := by omega
  rw [e] at this
  exact this
/-- the class of four words. -/
def clWords (a b c d : Nat) : Nat → Bool := fun i => if i < 64 then a.testBit i else if i < 128 then b.testBit (i - 64) else if i < 192 then c.testBit (i - 128) else d.testBit (i - 192)
theorem words_cl (a b c d : Nat) (ha : a < 18446744073709551616) (hb : b < 18446744073709551616) (hc : c < 18446744073709551616) (hd : d < 18446744073709551616) :
    ∃ s, #[Value.int .u64 a, .int .u64 b, .int .u64 c, .int .u64 d] = clc s := by
  refine ⟨clWords a b c d, ?_⟩
  have h0 : a = word (clWords a b c d) 0 := word_eq ha fun i hi => by
    unfold clWords; rw [if_pos (by omega)]; congr 1; omega
  have h1 : b = word (clWords a b c d) 1 := word_eq hb fun i hi => by
    unfold clWords; rw [if_neg (by omega), if_pos (by omega)]; exact congrArg (fun j => b.testBit j) (by omega)
  have h2 : c = word (clWords a b c d) 2 := word_eq hc fun i hi => by
    unfold clWords; rw [if_neg (by omega), if_neg (by omega), if_pos (by omega)]; exact congrArg (fun j => c.testBit j) (by omega)
  have h3 : d = word (clWords a b c d) 3 := word_eq hd fun i hi => by
    unfold clWords; rw [if_neg (by omega), if_neg (by omega), if_neg (by omega)]; exact congrArg (fun j => d.testBit j) (by omega)
  unfold clc
  rw [← h0, ← h1, ← h2, ← h3]

/-- one bit. -/
theorem shl_one (i : Nat) (hi : i < 64) : IntKind.u64.wrap (1 * 2 ^ i) = ((2 ^ i : Nat) : Int) := by
  have h : (2 : Nat) ^ i < 2 ^ 64 := Nat.pow_lt_pow_right (by omega) hi
  have h0 : (2 : Nat) ^ 64 = 18446744073709551616 := by decide
  rw [h0] at h
  rw [Int.one_mul]
  have : ((2 : Int) ^ i) = ((2 ^ i : Nat) : Int) := by simp
  rw [this, IntKind.wrap_u64]
  generalize 2 ^ i = x at *
  omega
theorem shr_word (x i : Nat) : (x : Int).fdiv (2 ^ i) = ((x >>> i : Nat) : Int) := by
  have : ((2 : Int) ^ i) = ((2 ^ i : Nat) : Int) := by simp
  rw [this, Nat.shiftRight_eq_div_pow]
  exact (Int.ofNat_fdiv x (2 ^ i)).symm ▸ rfl
/-- is a byte in? -/
theorem has_bit (x i : Nat) : ((x >>> i) &&& 1 = 1) ↔ x.testBit i = true := by
  rw [Nat.and_one_is_mod, Nat.testBit]
  simp [Nat.and_comm, Nat.and_one_is_mod]

attribute [irreducible] word
/-! what is done to classes -/
def clNone : Nat → Bool := fun _ => false
def clNot (s : Nat → Bool) : Nat → Bool := fun b => !s b
def clOr (s t : Nat → Bool) : Nat → Bool := fun b => s b || t b
def clOrs (l : List (Nat → Bool)) : Nat → Bool := fun b => l.any fun s => s b
def clOf (l : List UInt8) : Nat → Bool := fun b => l.any fun x => b == x.toNat

theorem clc_none : clc clNone = #[.int .u64 0, .int .u64 0, .int .u64 0, .int .u64 0] := by
  have h : ∀ k, word clNone k = 0 := fun k => (word_eq (x := 0) (by omega) (fun i _ => by simp [clNone])).symm
  simp [clc, h]

end Go.Proofs.YtkimkghldilliaaGreat
