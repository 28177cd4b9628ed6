/-
  The bytes of a class, one behind the other; how many; their runs; math/bits.OnesCount64's arithmetic.
-/
import Derived.Test.YtchjlgmnfepedaaDoorCls
import Derived.Lib.TrailingZeros
namespace Go.Proofs.YtchjlgmnfepedaaDoor
open Go.RowKit

/-- digits of k bits each, put together. -/
def fld (k : Nat) (d : Nat → Nat) : Nat → Nat
  | 0 => 0
  | n + 1 => fld k d n + d n * 2 ^ (k * n)

theorem fld_lt {k : Nat} {d : Nat → Nat} : ∀ {n : Nat}, (∀ i, i < n → d i < 2 ^ k) → fld k d n < 2 ^ (k * n)
  | 0, _ => by simp [fld]
  | n + 1, h => by
    have ih := fld_lt (n := n) fun i hi => h i (by omega)
    have hn : (d n + 1) * 2 ^ (k * n) ≤ 2 ^ k * 2 ^ (k * n) := Nat.mul_le_mul_right _ (h n (by omega))
    have e : 2 ^ (k * (n + 1)) = 2 ^ k * 2 ^ (k * n) := by rw [← Nat.pow_add]; congr 1; rw [Nat.mul_succ]; omega
    rw [Nat.add_mul, Nat.one_mul] at hn
    rw [e]
    simp only [fld]
    omega

theorem testBit_fld {k : Nat} {d : Nat → Nat} (hk : 0 < k) : ∀ {n : Nat}, (∀ i, i < n → d i < 2 ^ k) → ∀ j, (fld k d n).testBit j = (decide (j / k < n) && (d (j / k)).testBit (j % k))
  | 0, _, j => by simp [fld]
  | n + 1, h, j => by
    have hlt := fld_lt (n := n) fun i hi => h i (by omega)
    have ih := testBit_fld hk (n := n) (fun i hi => h i (by omega)) j
    simp only [fld]
    rw [Nat.add_comm, Nat.mul_comm (d n), Nat.testBit_two_pow_mul_add _ hlt]
    have hdm := Nat.div_add_mod j k
    have hm := Nat.mod_lt j hk
    by_cases hj : j < k * n
    · have hq : j / k < n := by
        refine Nat.lt_of_not_le fun hle => ?_
        have := Nat.mul_le_mul_left k hle
        omega
      rw [if_pos hj, ih]
      simp [hq, Nat.lt_succ_of_lt hq]
    · rw [if_neg hj]
      have hq : n ≤ j / k := (Nat.le_div_iff_mul_le hk).2 (by rw [Nat.mul_comm]; omega)
      by_cases he : j / k = n
      · subst he
        have : j - k * (j / k) = j % k := by omega
        simp [this]
      · have hn1 : ¬ j / k < n + 1 := by omega
        have h1 : k * (n + 1) ≤ k * (j / k) := Nat.mul_le_mul_left k (by omega)
        rw [Nat.mul_succ] at h1
        rw [Nat.testBit_lt_two_pow (Nat.lt_of_lt_of_le (h n (by omega)) (Nat.pow_le_pow_right (by omega) (by omega)))]
        simp [hn1]

theorem fld_add {k : Nat} {d e : Nat → Nat} : ∀ {n : Nat}, fld k d n + fld k e n = fld k (fun i => d i + e i) n
  | 0 => rfl
  | n + 1 => by
    have ih := fld_add (k := k) (d := d) (e := e) (n := n)
    simp only [fld, Nat.add_mul]
    omega

/-- the digits at even places. -/
theorem fld_even {k n M : Nat} {d : Nat → Nat} (hk : 0 < k) (hd : ∀ i, i < 2 * n → d i < 2 ^ k) (hM : ∀ j, j < 2 * k * n → M.testBit j = decide (j % (2 * k) < k)) :
    fld k d (2 * n) &&& M = fld (2 * k) (fun i => d (2 * i)) n := by
  apply Nat.eq_of_testBit_eq
  intro j
  have hd2 : ∀ i, i < n → d (2 * i) < 2 ^ (2 * k) := fun i hi => Nat.lt_of_lt_of_le (hd _ (by omega)) (Nat.pow_le_pow_right (by omega) (by omega))
  rw [Nat.testBit_and, testBit_fld hk hd, testBit_fld (by omega) hd2]
  have e0 := Nat.div_add_mod j (2 * k)
  have m0 := Nat.mod_lt j (show 0 < 2 * k by omega)
  by_cases hj : j / (2 * k) < n
  · have hjl : j < 2 * k * n := Nat.lt_of_lt_of_eq ((Nat.div_lt_iff_lt_mul (by omega)).1 hj) (Nat.mul_comm _ _)
    rw [hM j hjl]
    by_cases hr : j % (2 * k) < k
    · have hq : j / k = 2 * (j / (2 * k)) := by
        refine Nat.div_eq_of_lt_le ?_ ?_ <;> rw [Nat.mul_comm]
        · rw [← Nat.mul_assoc, Nat.mul_comm k 2]; omega
        · rw [Nat.mul_succ, ← Nat.mul_assoc, Nat.mul_comm k 2]; omega
      have hm : j % k = j % (2 * k) := by
        have := Nat.div_add_mod j k
        rw [hq, ← Nat.mul_assoc, Nat.mul_comm k 2] at this
        omega
      rw [hq, hm]
      have : 2 * (j / (2 * k)) < 2 * n := by omega
      simp [hj, hr, this]
    · rw [Nat.testBit_lt_two_pow (x := d (2 * (j / (2 * k)))) (Nat.lt_of_lt_of_le (hd _ (by omega)) (Nat.pow_le_pow_right (by omega) (by omega)))]
      simp [hr]
  · have : ¬ j / k < 2 * n := by
      intro h
      apply hj
      rw [Nat.mul_comm 2 k, ← Nat.div_div_eq_div_mul]
      omega
    simp [hj, this]

/-- digits are moved down. -/
theorem fld_shr {k n s : Nat} {d : Nat → Nat} (hk : 0 < k) (hd : ∀ i, d i < 2 ^ k) (hz : ∀ i, n ≤ i → d i = 0) : fld k d n >>> (k * s) = fld k (fun i => d (i + s)) n := by
  apply Nat.eq_of_testBit_eq
  intro j
  rw [Nat.testBit_shiftRight, testBit_fld hk (fun i _ => hd i), testBit_fld hk (fun i _ => hd (i + s))]
  rw [show k * s + j = j + s * k from by rw [Nat.mul_comm]; omega, Nat.add_mul_div_right _ _ hk, Nat.add_mul_mod_self_right]
  by_cases h : j / k + s < n
  · have : j / k < n := by omega
    simp [h, this]
  · rw [hz _ (by omega)]
    simp

/-- the lowest digit. -/
theorem fld_low {n : Nat} {d : Nat → Nat} (hd : ∀ i, i < n → d i < 2 ^ 8) (hn : 0 < n) (h0 : d 0 < 2 ^ 7) : fld 8 d n &&& 127 = d 0 := by
  apply Nat.eq_of_testBit_eq
  intro j
  rw [Nat.testBit_and, testBit_fld (by omega) hd, show (127 : Nat) = 2 ^ 7 - 1 from rfl, Nat.testBit_two_pow_sub_one]
  by_cases hj : j < 7
  · have h1 : j / 8 = 0 := by omega
    have h2 : j % 8 = j := by omega
    rw [h1, h2]
    simp [hj, hn]
  · rw [Nat.testBit_lt_two_pow (x := d 0) (Nat.lt_of_lt_of_le h0 (Nat.pow_le_pow_right (by omega) (by omega)))]
    simp [hj]

theorem mask0 : ∀ j, j < 2 * 1 * 32 → Nat.testBit 6148914691236517205 j = decide (j % (2 * 1) < 1) := by decide
theorem mask1 : ∀ j, j < 2 * 2 * 16 → Nat.testBit 3689348814741910323 j = decide (j % (2 * 2) < 2) := by decide
theorem mask2 : ∀ j, j < 2 * 4 * 8 → Nat.testBit 1085102592571150095 j = decide (j % (2 * 4) < 4) := by decide

/-- two digits are put together. -/
def two (d : Nat → Nat) : Nat → Nat := fun i => d (2 * i + 1) + d (2 * i)
theorem fld_two {k n M : Nat} {d : Nat → Nat} (hk : 0 < k) (hd : ∀ i, d i < 2 ^ k) (hz : ∀ i, 2 * n ≤ i → d i = 0) (hM : ∀ j, j < 2 * k * n → M.testBit j = decide (j % (2 * k) < k)) :
    (fld k d (2 * n) >>> k &&& M) + (fld k d (2 * n) &&& M) = fld (2 * k) (two d) n := by
  have h := fld_shr (s := 1) hk hd hz
  rw [Nat.mul_one] at h
  rw [h, fld_even hk (fun i _ => hd _) hM, fld_even hk (fun i _ => hd _) hM, fld_add]
  rfl
/-- a digit and the one s places up. -/
def off (s : Nat) (d : Nat → Nat) : Nat → Nat := fun i => d i + d (i + s)
theorem fld_off {k n s : Nat} {d : Nat → Nat} (hk : 0 < k) (hd : ∀ i, d i < 2 ^ k) (hz : ∀ i, n ≤ i → d i = 0) : fld k d n + fld k d n >>> (k * s) = fld k (off s d) n := by
  rw [fld_shr hk hd hz, fld_add]
  rfl
theorem two_le {d : Nat → Nat} {m : Nat} (h : ∀ i, d i ≤ m) : ∀ i, two d i ≤ 2 * m := fun i => by have := h (2 * i); have := h (2 * i + 1); unfold two; omega
theorem two_zero {d : Nat → Nat} {n : Nat} (h : ∀ i, 2 * n ≤ i → d i = 0) : ∀ i, n ≤ i → two d i = 0 := fun i hi => by unfold two; rw [h _ (by omega), h _ (by omega)]
theorem off_le {d : Nat → Nat} {m s : Nat} (h : ∀ i, d i ≤ m) : ∀ i, off s d i ≤ 2 * m := fun i => by have := h i; have := h (i + s); unfold off; omega
theorem off_zero {d : Nat → Nat} {n s : Nat} (h : ∀ i, n ≤ i → d i = 0) : ∀ i, n ≤ i → off s d i = 0 := fun i hi => by unfold off; rw [h _ (by omega), h _ (by omega)]

set_option maxRecDepth 10000 in
/-- math/bits.OnesCount64's arithmetic. -/
theorem pop_steps (d : Nat → Nat) (hd : ∀ i, d i ≤ 1) (hz : ∀ i, 64 ≤ i → d i = 0) :
    ∃ a b c e f g : Nat, (fld 1 d 64 >>> 1 &&& 6148914691236517205) + (fld 1 d 64 &&& 6148914691236517205) = a ∧
      (a >>> 2 &&& 3689348814741910323) + (a &&& 3689348814741910323) = b ∧ (b >>> 4 + b) &&& 1085102592571150095 = c ∧ c + c >>> 8 = e ∧ e + e >>> 16 = f ∧ f + f >>> 32 = g ∧
      a < 2 ^ 64 ∧ b < 2 ^ 64 ∧ b >>> 4 + b < 2 ^ 64 ∧ c < 2 ^ 64 ∧ e < 2 ^ 64 ∧ f < 2 ^ 64 ∧ g < 2 ^ 63 ∧ g &&& 127 = off 4 (off 2 (off 1 (two (two (two d))))) 0 := by
  have l1 := two_le hd
  have z1 := two_zero (n := 32) hz
  have l2 := two_le l1
  have z2 := two_zero (n := 16) z1
  have l3 := off_le (s := 1) l2
  have l4 := two_le l2
  have z4 := two_zero (n := 8) z2
  have l5 := off_le (s := 1) l4
  have z5 := off_zero (s := 1) z4
  have l6 := off_le (s := 2) l5
  have z6 := off_zero (s := 2) z5
  have l7 := off_le (s := 4) l6
  have ha := fld_two (n := 32) (by omega) (fun i => by have := hd i; omega) hz mask0
  have hb := fld_two (n := 16) (by omega) (fun i => by have := l1 i; omega) z1 mask1
  have hbb := fld_off (k := 4) (n := 16) (s := 1) (by omega) (fun i => by have := l2 i; omega) z2
  have hc := fld_even (k := 4) (n := 8) (by omega) (fun i _ => by have := l3 i; omega : ∀ i, i < 2 * 8 → off 1 (two (two d)) i < 2 ^ 4) mask2
  have he := fld_off (k := 8) (n := 8) (s := 1) (by omega) (fun i => by have := l4 i; omega) z4
  have hf := fld_off (k := 8) (n := 8) (s := 2) (by omega) (fun i => by have := l5 i; omega) z5
  have hg := fld_off (k := 8) (n := 8) (s := 4) (by omega) (fun i => by have := l6 i; omega) z6
  have hlow := fld_low (n := 8) (d := off 4 (off 2 (off 1 (two (two (two d)))))) (fun i _ => by have := l7 i; omega) (by omega) (by have := l7 0; omega)
  have c0 : (fun i => off 1 (two (two d)) (2 * i)) = two (two (two d)) := by
    funext i; unfold off; rw [Nat.add_comm]; rfl
  rw [c0] at hc
  have b1 : fld 2 (two d) 32 < 2 ^ 64 := fld_lt (k := 2) fun i _ => by have := l1 i; omega
  have b2 : fld 4 (two (two d)) 16 < 2 ^ 64 := fld_lt (k := 4) fun i _ => by have := l2 i; omega
  have b3 : fld 4 (off 1 (two (two d))) 16 < 2 ^ 64 := fld_lt (k := 4) fun i _ => by have := l3 i; omega
  have b4 : fld 8 (two (two (two d))) 8 < 2 ^ 64 := fld_lt (k := 8) fun i _ => by have := l4 i; omega
  have b5 : fld 8 (off 1 (two (two (two d)))) 8 < 2 ^ 64 := fld_lt (k := 8) fun i _ => by have := l5 i; omega
  have b6 : fld 8 (off 2 (off 1 (two (two (two d))))) 8 < 2 ^ 64 := fld_lt (k := 8) fun i _ => by have := l6 i; omega
  have b7 : fld 8 (off 4 (off 2 (off 1 (two (two (two d)))))) 8 < 2 ^ 63 := by
    have h1 : fld 8 (off 4 (off 2 (off 1 (two (two (two d)))))) 7 < 2 ^ 56 := fld_lt (k := 8) (n := 7) fun i _ => by have := l7 i; omega
    have h2 := l7 7
    show fld 8 (off 4 (off 2 (off 1 (two (two (two d)))))) 7 + off 4 (off 2 (off 1 (two (two (two d))))) 7 * 2 ^ 56 < 2 ^ 63
    omega
  rw [Nat.add_comm] at hbb
  exact ⟨_, _, _, _, _, _, ha, hb, (congrArg (fun x => x &&& 1085102592571150095) hbb).trans hc, he, hf, hg, b1, b2, hbb ▸ b3, b4, b5, b6, b7, hlow⟩

/-- how many of the first n. -/
def cnt (p : Nat → Bool) : Nat → Nat
  | 0 => 0
  | n + 1 => cnt p n + (p n).toNat
theorem bits_fld (p : Nat → Bool) (x : Nat) (hx : x < 2 ^ 64) (h : ∀ i, i < 64 → x.testBit i = p i) : x = fld 1 (fun i => (decide (i < 64) && p i).toNat) 64 := by
  apply Nat.eq_of_testBit_eq
  intro j
  rw [testBit_fld (by omega) (fun i _ => by cases (decide (i < 64) && p i) <;> simp)]
  rw [Nat.div_one, Nat.mod_one]
  by_cases hj : j < 64
  · rw [h j hj]
    cases p j <;> simp [hj]
  · rw [Nat.testBit_lt_two_pow (Nat.lt_of_lt_of_le hx (Nat.pow_le_pow_right (by omega) (by omega)))]
    simp [hj]
set_option maxRecDepth 10000 in
theorem off_cnt (p : Nat → Bool) : off 4 (off 2 (off 1 (two (two (two fun i => (decide (i < 64) && p i).toNat))))) 0 = cnt p 64 := by
  simp only [off, two, cnt, Nat.reduceMul, Nat.reduceAdd, Nat.reduceLT, decide_true, Bool.true_and]
  omega
/-- what OnesCount64 does to a number. -/
theorem pop_word (p : Nat → Bool) (x : Nat) (hx : x < 2 ^ 64) (h : ∀ i, i < 64 → x.testBit i = p i) :
    ∃ a b c e f g : Nat, (x >>> 1 &&& 6148914691236517205) + (x &&& 6148914691236517205) = a ∧
      (a >>> 2 &&& 3689348814741910323) + (a &&& 3689348814741910323) = b ∧ (b >>> 4 + b) &&& 1085102592571150095 = c ∧ c + c >>> 8 = e ∧ e + e >>> 16 = f ∧ f + f >>> 32 = g ∧
      a < 2 ^ 64 ∧ b < 2 ^ 64 ∧ b >>> 4 + b < 2 ^ 64 ∧ c < 2 ^ 64 ∧ e < 2 ^ 64 ∧ f < 2 ^ 64 ∧ g < 2 ^ 63 ∧ g &&& 127 = cnt p 64 := by
  rw [bits_fld p x hx h, ← off_cnt p]
  exact pop_steps _ (fun i => by cases (decide (i < 64) && p i) <;> simp) (fun i hi => by simp; omega)
/-- word k of a class, from bit x on. -/
def wfrom (s : Nat → Bool) (k x : Nat) : Nat := bitsN (fun i => decide (x ≤ i) && s (64 * k + i)) 64
theorem wfrom_lt (s : Nat → Bool) (k x : Nat) : wfrom s k x < 18446744073709551616 := bitsN_lt _ 64
theorem wfrom_bit (s : Nat → Bool) (k x i : Nat) (hi : i < 64) : (wfrom s k x).testBit i = (decide (x ≤ i) && s (64 * k + i)) := by
  unfold wfrom; rw [testBit_bitsN]; simp [hi]
theorem wfrom_zero (s : Nat → Bool) (k : Nat) : wfrom s k 0 = word s k := word_eq (wfrom_lt _ _ _) fun i hi => by rw [wfrom_bit _ _ _ _ hi]; simp
theorem wfrom_end {s : Nat → Bool} {k x : Nat} (h : wfrom s k x = 0) : ∀ i, x ≤ i → i < 64 → s (64 * k + i) = false := fun i hx hi => by
  have := wfrom_bit s k x i hi
  rw [h] at this
  simpa [hx] using this.symm
theorem and_pred (t m : Nat) : (2 ^ t * (2 * m + 1)) &&& (2 ^ t * (2 * m + 1) - 1) = 2 ^ (t + 1) * m := by
  have hp : 0 < 2 ^ t := Nat.pow_pos (by omega)
  have e : 2 ^ t * (2 * m + 1) - 1 = 2 ^ (t + 1) * m + (2 ^ t - 1) := by
    rw [Nat.pow_succ, Nat.mul_assoc, Nat.mul_add, Nat.mul_one]; omega
  have hlt : 2 ^ t - 1 < 2 ^ (t + 1) := by rw [Nat.pow_succ]; omega
  apply Nat.eq_of_testBit_eq
  intro i
  rw [Nat.testBit_and, e, Nat.testBit_two_pow_mul_add _ hlt, Nat.mul_comm, Nat.testBit_mul_two_pow, Nat.mul_comm (2 ^ (t + 1)), Nat.testBit_mul_two_pow]
  by_cases h1 : i < t + 1
  · rw [if_pos h1, Nat.testBit_two_pow_sub_one]
    by_cases h2 : t ≤ i
    · have : ¬ i < t := by omega
      have h3 : ¬ t + 1 ≤ i := by omega
      simp [this, h3]
    · have h3 : ¬ t + 1 ≤ i := by omega
      simp [h2, h3]
  · rw [if_neg h1]
    have h2 : t ≤ i := by omega
    have h3 : t + 1 ≤ i := by omega
    obtain ⟨j, rfl⟩ : ∃ j, i = t + 1 + j := ⟨i - (t + 1), by omega⟩
    rw [show t + 1 + j - t = j + 1 by omega, show t + 1 + j - (t + 1) = j by omega, Nat.testBit_succ, show (2 * m + 1) / 2 = m by omega]
    simp [h2]
theorem wfrom_next {s : Nat → Bool} {k x : Nat} (h : wfrom s k x ≠ 0) : ∃ t, Lib.ctz 64 (wfrom s k x) = t ∧ x ≤ t ∧ t < 64 ∧ s (64 * k + t) = true ∧ (∀ i, x ≤ i → i < t → s (64 * k + i) = false) ∧
    wfrom s k x &&& (wfrom s k x - 1) = wfrom s k (t + 1) := by
  obtain ⟨m, hm, ht⟩ := Lib.ctzFrom_spec 64 (wfrom s k x) (by omega) (wfrom_lt _ _ _)
  refine ⟨Lib.ctzFrom 64 (wfrom s k x), by unfold Lib.ctz; rw [if_neg h], ?_⟩
  generalize Lib.ctzFrom 64 (wfrom s k x) = t at hm ht
  have hb : ∀ i, (wfrom s k x).testBit i = (decide (t ≤ i) && (2 * m + 1).testBit (i - t)) := fun i => by
    rw [hm, Nat.mul_comm, Nat.testBit_mul_two_pow]
  have h1 := hb t
  rw [wfrom_bit _ _ _ _ ht] at h1
  have h1' : x ≤ t ∧ s (64 * k + t) = true := by simpa [Nat.testBit_zero] using h1
  have h2 : ∀ i, x ≤ i → i < t → s (64 * k + i) = false := fun i hx hi => by
    have := hb i
    rw [wfrom_bit _ _ _ _ (by omega)] at this
    have h3 : ¬ t ≤ i := by omega
    simpa [hx, h3] using this
  refine ⟨h1'.1, ht, h1'.2, h2, ?_⟩
  have e := and_pred t m
  rw [← hm] at e
  refine (eq_bitsN (n := 64) (Nat.lt_of_le_of_lt Nat.and_le_left (wfrom_lt _ _ _)) fun i hi => ?_)
  rw [e, Nat.mul_comm, Nat.testBit_mul_two_pow]
  have hbi := hb i
  rw [wfrom_bit _ _ _ _ hi] at hbi
  by_cases h3 : t + 1 ≤ i
  · obtain ⟨j, rfl⟩ : ∃ j, i = t + 1 + j := ⟨i - (t + 1), by omega⟩
    rw [show t + 1 + j - t = j + 1 by omega, Nat.testBit_succ, show (2 * m + 1) / 2 = m by omega] at hbi
    have hx : x ≤ t + 1 + j := by omega
    have ht : t ≤ t + 1 + j := by omega
    simp only [hx, ht, decide_true, Bool.true_and] at hbi
    rw [show t + 1 + j - (t + 1) = j by omega]
    simp [hbi]
  · simp [h3]

/-- what is in, below n. -/
def els (s : Nat → Bool) (n : Nat) : List Nat := (List.range n).filter s
theorem els_hit {s : Nat → Bool} {t : Nat} (h : s t = true) : els s (t + 1) = els s t ++ [t] := by
  simp [els, List.range_succ, h]
theorem els_skip {s : Nat → Bool} {n m : Nat} (hnm : n ≤ m) (h : ∀ i, n ≤ i → i < m → s i = false) : els s m = els s n := by
  induction m with
  | zero => obtain rfl : n = 0 := by omega
            rfl
  | succ m ih =>
    by_cases he : n = m + 1
    · rw [he]
    · rw [← ih (by omega) fun i h1 h2 => h i h1 (by omega)]
      simp [els, List.range_succ, h m (by omega) (by omega)]
theorem mem_els {s : Nat → Bool} {n b : Nat} : b ∈ els s n ↔ b < n ∧ s b = true := by simp [els]
theorem els_len (s : Nat → Bool) : ∀ n, (els s n).length = cnt s n
  | 0 => rfl
  | n + 1 => by
    have ih := els_len s n
    cases h : s n
    · rw [els_skip (Nat.le_succ n) (fun i h1 h2 => by obtain rfl : i = n := by omega
                                                      exact h), ih]
      simp [cnt, h]
    · rw [els_hit h]
      simp [ih, cnt, h]
/-- one more byte behind some runs. -/
def runStep (o : List (Nat × Nat)) (b : Nat) : List (Nat × Nat) :=
  match o.getLast? with
  | none => [(b, b)]
  | some r => if r.2 + 1 = b then o.dropLast ++ [(r.1, b)] else o ++ [(b, b)]
theorem runStep_nil (b : Nat) : runStep [] b = [(b, b)] := rfl
theorem runStep_join (o : List (Nat × Nat)) (p q b : Nat) (h : q + 1 = b) : runStep (o ++ [(p, q)]) b = o ++ [(p, b)] := by
  simp [runStep, h]
theorem runStep_new (o : List (Nat × Nat)) (p q b : Nat) (h : q + 1 ≠ b) : runStep (o ++ [(p, q)]) b = o ++ [(p, q)] ++ [(b, b)] := by
  simp [runStep, h]
/-- the runs of some bytes. -/
def runsOf (l : List Nat) : List (Nat × Nat) := l.foldl runStep []
theorem runsOf_snoc (l : List Nat) (b : Nat) : runsOf (l ++ [b]) = runStep (runsOf l) b := by simp [runsOf]
def runSum : List (Nat × Nat) → Nat
  | [] => 0
  | r :: l => r.2 + 1 - r.1 + runSum l
theorem runSum_append (a b : List (Nat × Nat)) : runSum (a ++ b) = runSum a + runSum b := by
  induction a with
  | nil => simp [runSum]
  | cons r a ih => simp only [List.cons_append, runSum, ih]; omega
/-- is it in a run? -/
def inRuns (o : List (Nat × Nat)) (b : Nat) : Bool := o.any fun r => decide (r.1 ≤ b) && decide (b ≤ r.2)
theorem inRuns_append (x y : List (Nat × Nat)) (b : Nat) : inRuns (x ++ y) b = (inRuns x b || inRuns y b) := by simp [inRuns]
theorem inRuns_one (p q b : Nat) : inRuns [(p, q)] b = (decide (p ≤ b) && decide (b ≤ q)) := by simp [inRuns]
structure RunsOk (o : List (Nat × Nat)) (l : List Nat) : Prop where
  up : ∀ r ∈ o, r.1 ≤ r.2
  gap : o.Pairwise fun a b => a.2 + 1 < b.1
  mem : ∀ b, inRuns o b = true ↔ b ∈ l
  sum : runSum o = l.length
  last : ∀ o' p q, o = o' ++ [(p, q)] → ∀ b ∈ l, b ≤ q
  ends : ∀ r ∈ o, r.1 ∈ l ∧ r.2 ∈ l
theorem runsOk_nil : RunsOk [] [] := by
  refine ⟨by simp, by simp, by simp [inRuns], rfl, ?_, by simp⟩
  intro o' p q h
  simp at h
theorem runsOk_snoc {o : List (Nat × Nat)} {l : List Nat} {b : Nat} (h : RunsOk o l) (hb : ∀ x ∈ l, x < b) : RunsOk (runStep o b) (l ++ [b]) := by
  rcases List.eq_nil_or_concat o with rfl | ⟨o', ⟨p, q⟩, rfl⟩
  · have hl : l = [] := by
      have := h.sum
      simp [runSum] at this
      exact List.eq_nil_of_length_eq_zero this.symm
    subst hl
    rw [runStep_nil]
    refine ⟨by simp, by simp, fun x => by simp [inRuns]; omega, by simp [runSum], ?_, by simp⟩
    intro o' p q e
    cases o' with
    | nil => simp at e; obtain ⟨rfl, rfl⟩ := e; simp
    | cons a t => simp at e
  · rw [List.concat_eq_append] at h ⊢
    have hq := (h.ends (p, q) (by simp)).2
    have hqb := hb q hq
    have hup := h.up (p, q) (by simp)
    have hlast := h.last o' p q rfl
    have hgap := List.pairwise_append.1 h.gap
    simp only at hup
    by_cases e : q + 1 = b
    · rw [runStep_join _ _ _ _ e]
      refine ⟨?_, ?_, ?_, ?_, ?_, ?_⟩
      · intro r hr
        rcases List.mem_append.1 hr with hr | hr
        · exact h.up r (by simp [hr])
        · simp at hr; subst hr; simp; omega
      · exact List.pairwise_append.2 ⟨hgap.1, by simp, fun a ha c hc => by
          simp at hc; subst hc
          exact hgap.2.2 a ha (p, q) (by simp)⟩
      · intro x
        have hm := h.mem x
        rw [inRuns_append, inRuns_one] at hm ⊢
        rw [List.mem_append, ← hm]
        simp only [Bool.or_eq_true, Bool.and_eq_true, decide_eq_true_eq, List.mem_singleton]
        cases inRuns o' x <;> simp <;> omega
      · have hs := h.sum
        rw [runSum_append] at hs ⊢
        simp only [runSum, List.length_append, List.length_singleton] at hs ⊢
        omega
      · intro o2 p2 q2 e2 x hx
        obtain ⟨-, e3⟩ := List.append_inj' e2 rfl
        simp at e3
        rcases List.mem_append.1 hx with hx | hx
        · have := hb x hx; omega
        · simp at hx; omega
      · intro r hr
        rcases List.mem_append.1 hr with hr | hr
        · have := h.ends r (by simp [hr]); exact ⟨by simp [this.1], by simp [this.2]⟩
        · simp at hr; subst hr
          exact ⟨List.mem_append.2 (.inl (h.ends (p, q) (by simp)).1), by simp⟩
    · rw [runStep_new _ _ _ _ e]
      refine ⟨?_, ?_, ?_, ?_, ?_, ?_⟩
      · intro r hr
        rcases List.mem_append.1 hr with hr | hr
        · exact h.up r hr
        · simp at hr; subst hr; simp
      · refine List.pairwise_append.2 ⟨h.gap, by simp, fun a ha c hc => ?_⟩
        simp at hc; subst hc
        have := hlast a.2 (h.ends a ha).2
        simp; omega
      · intro x
        rw [inRuns_append, inRuns_one, List.mem_append, ← h.mem x]
        simp only [Bool.or_eq_true, Bool.and_eq_true, decide_eq_true_eq, List.mem_singleton]
        cases inRuns (o' ++ [(p, q)]) x <;> simp <;> omega
      · have hs := h.sum
        rw [runSum_append, hs]
        simp only [runSum, List.length_append, List.length_singleton]
        omega
      · intro o2 p2 q2 e2 x hx
        obtain ⟨-, e3⟩ := List.append_inj' e2 rfl
        simp at e3
        rcases List.mem_append.1 hx with hx | hx
        · have := hb x hx; omega
        · simp at hx; omega
      · intro r hr
        rcases List.mem_append.1 hr with hr | hr
        · have := h.ends r hr; exact ⟨by simp [this.1], by simp [this.2]⟩
        · simp at hr; subst hr; simp
theorem runsOk (s : Nat → Bool) : ∀ n, RunsOk (runsOf (els s n)) (els s n)
  | 0 => runsOk_nil
  | n + 1 => by
    have ih := runsOk s n
    cases h : s n
    · rw [els_skip (Nat.le_succ n) (fun i h1 h2 => by obtain rfl : i = n := by omega
                                                      exact h)]
      exact ih
    · rw [els_hit h, runsOf_snoc]
      exact runsOk_snoc ih fun x hx => (mem_els.1 hx).1
theorem cnt_le (p : Nat → Bool) : ∀ n, cnt p n ≤ n
  | 0 => Nat.le_refl _
  | n + 1 => by have := cnt_le p n; simp only [cnt]; cases p n <;> simp <;> omega
theorem cnt_mono (p : Nat → Bool) {n m : Nat} (h : n ≤ m) : cnt p n ≤ cnt p m := by
  induction m with
  | zero => obtain rfl : n = 0 := by omega
            exact Nat.le_refl _
  | succ m ih =>
    by_cases he : n = m + 1
    · rw [he]; exact Nat.le_refl _
    · have := ih (by omega); simp only [cnt]; omega
theorem cnt_hit {p : Nat → Bool} {n t : Nat} (h : n ≤ t) (hp : p t = true) : cnt p n + 1 ≤ cnt p (t + 1) := by
  have := cnt_mono p h
  simp only [cnt, hp]
  simp; omega
end Go.Proofs.YtchjlgmnfepedaaDoor
