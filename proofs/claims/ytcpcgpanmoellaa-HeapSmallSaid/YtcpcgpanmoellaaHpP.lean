/-
  Heaps, plainly: places as a function; how a swap, a step up, a step down turn the order.
-/
import Derived.Test.YtcpcgpanmoellaaLib
namespace Go.Proofs.Ytcpcgpanmoellaa
open Go.RowKit Go.Lib

/-- a thing that waits: key, name, turn. -/
structure En where
  key : Int
  name : Int
  turn : Int
deriving DecidableEq
def En.none : En := ⟨0, 0, 0⟩
def En.lt (a b : En) : Prop := a.key < b.key ∨ (a.key = b.key ∧ a.turn < b.turn)
instance (a b : En) : Decidable (En.lt a b) := by unfold En.lt; infer_instance
def En.le (a b : En) : Prop := ¬ En.lt b a
theorem En.le_refl (a : En) : En.le a a := by unfold En.le En.lt; omega
theorem En.le_trans {a b c : En} (h1 : En.le a b) (h2 : En.le b c) : En.le a c := by unfold En.le En.lt at *; omega
theorem En.lt_le {a b : En} (h : En.lt a b) : En.le a b := by unfold En.le En.lt at *; omega
theorem En.le_total {a b : En} (h : ¬ En.le a b) : En.le b a := by unfold En.le En.lt at *; omega

def par (k : Nat) : Nat := (k - 1) / 2
theorem par_lt {k : Nat} (h : 0 < k) : par k < k := by unfold par; omega
/-- the first n places are a heap. -/
def Hp (f : Nat → En) (n : Nat) : Prop := ∀ k, 0 < k → k < n → En.le (f (par k)) (f k)
/-- a heap but for the place j, which may be too small. -/
def UpI (f : Nat → En) (n j : Nat) : Prop := (∀ k, 0 < k → k < n → k ≠ j → En.le (f (par k)) (f k)) ∧ ∀ k, 0 < k → k < n → par k = j → 0 < j → En.le (f (par j)) (f k)
/-- a heap but for the place i, which may be too great (and, if nothing was moved, too small). -/
def DnI (f : Nat → En) (n i : Nat) (moved : Bool) : Prop := (∀ k, 0 < k → k < n → par k ≠ i → (moved = true ∨ k ≠ i) → En.le (f (par k)) (f k)) ∧ ∀ k, 0 < k → k < n → par k = i → 0 < i → En.le (f (par i)) (f k)
def swp (f : Nat → En) (i j : Nat) : Nat → En := fun k => if k = i then f j else if k = j then f i else f k

theorem up_done {f : Nat → En} {n j : Nat} (h : UpI f n j) (hd : j = 0 ∨ ¬ En.lt (f j) (f (par j))) : Hp f n := fun k h0 hk => by
  by_cases hj : k = j
  · subst hj
    rcases hd with hd | hd
    · omega
    · exact hd
  · exact h.1 k h0 hk hj
theorem up_step {f : Nat → En} {n j : Nat} (h : UpI f n j) (h0 : 0 < j) (hj : j < n) (hl : En.lt (f j) (f (par j))) : UpI (swp f (par j) j) n (par j) := by
  have hp := par_lt h0
  refine ⟨fun k k0 kn kne => ?_, fun k k0 kn kp p0 => ?_⟩
  · have kp := par_lt k0
    unfold swp
    by_cases h1 : k = j
    · subst h1
      simp only [if_true]
      rw [if_neg (by omega)]
      exact En.lt_le hl
    · rw [if_neg kne, if_neg h1]
      by_cases h2 : par k = par j
      · rw [if_pos h2]
        exact En.le_trans (En.lt_le hl) (by have := h.1 k k0 kn h1; rwa [h2] at this)
      · rw [if_neg h2]
        by_cases h3 : par k = j
        · rw [if_pos h3]
          exact h.2 k k0 kn h3 h0
        · rw [if_neg h3]
          exact h.1 k k0 kn h1
  · have hpp := par_lt p0
    have kp2 := par_lt k0
    have h4 := h.1 (par j) p0 (by omega) (by omega)
    unfold swp
    rw [if_neg (show ¬ par (par j) = par j by omega), if_neg (show ¬ par (par j) = j by omega), if_neg (by omega)]
    by_cases h1 : k = j
    · rw [if_pos h1]; exact h4
    · rw [if_neg h1]
      have h5 := h.1 k k0 kn h1
      rw [kp] at h5
      exact En.le_trans h4 h5
/-- a step down: j is the less kid of i. -/
theorem dn_step {f : Nat → En} {n i j : Nat} {m : Bool} (h : DnI f n i m) (h0 : 0 < j) (hj : j < n) (hp : par j = i) (hm : ∀ k, 0 < k → k < n → par k = i → En.le (f j) (f k)) (hl : En.lt (f j) (f i)) : DnI (swp f i j) n j true := by
  have hij := par_lt h0
  rw [hp] at hij
  refine ⟨fun k k0 kn kp _ => ?_, fun k k0 kn kp _ => ?_⟩
  · have kp2 := par_lt k0
    unfold swp
    by_cases h1 : par k = i
    · rw [if_pos h1, if_neg (show ¬ k = i by omega)]
      by_cases h2 : k = j
      · rw [if_pos h2]; exact En.lt_le hl
      · rw [if_neg h2]; exact hm k k0 kn h1
    · rw [if_neg h1, if_neg kp]
      by_cases h2 : k = i
      · rw [if_pos h2]
        subst h2
        exact h.2 j h0 hj hp k0
      · rw [if_neg h2]
        by_cases h3 : k = j
        · exact absurd (by rw [h3]; exact hp) h1
        · rw [if_neg h3]
          exact h.1 k k0 kn h1 (.inr h2)
  · have kp2 := par_lt k0
    unfold swp
    rw [hp, if_pos rfl, if_neg (by omega), if_neg (by omega)]
    have := h.1 k k0 kn (by omega) (.inr (by omega))
    rw [kp] at this
    exact this
theorem dn_done {f : Nat → En} {n i : Nat} {m : Bool} (h : DnI f n i m) (hk : ∀ k, 0 < k → k < n → par k = i → En.le (f i) (f k)) : UpI f n i ∧ (m = true → Hp f n) := by
  refine ⟨⟨fun k k0 kn ki => ?_, h.2⟩, fun hm k k0 kn => ?_⟩
  · by_cases h1 : par k = i
    · have := hk k k0 kn h1; rwa [h1]
    · exact h.1 k k0 kn h1 (.inr ki)
  · by_cases h1 : par k = i
    · have := hk k k0 kn h1; rwa [h1]
    · exact h.1 k k0 kn h1 (.inl hm)
/-- the first is the least. -/
theorem hp_least {f : Nat → En} {n : Nat} (h : Hp f n) : ∀ k, k < n → En.le (f 0) (f k) := by
  intro k
  induction k using Nat.strongRecOn with
  | _ k ih =>
    intro hk
    by_cases h0 : 0 < k
    · exact En.le_trans (ih (par k) (par_lt h0) (by have := par_lt h0; omega)) (h k h0 hk)
    · obtain rfl : k = 0 := by omega
      exact En.le_refl _
/-- a heap, one place of it laid anew. -/
theorem dn_set {f g : Nat → En} {n N i : Nat} (h : Hp f N) (hN : n ≤ N) (hi : i < N) (hg : ∀ k, k < n → k ≠ i → g k = f k) : DnI g n i false := by
  refine ⟨fun k k0 kn kp hki => ?_, fun k k0 kn kp i0 => ?_⟩
  · have hki : k ≠ i := hki.resolve_left (by simp)
    have kp2 := par_lt k0
    rw [hg k kn hki, hg (par k) (by omega) kp]
    exact h k k0 (by omega)
  · have kp2 := par_lt k0
    have ip2 := par_lt i0
    rw [hg k kn (by omega), hg (par i) (by omega) (by omega)]
    have h1 := h k k0 (by omega)
    rw [kp] at h1
    exact En.le_trans (h i i0 hi) h1
theorem up_push {f : Nat → En} {n : Nat} (h : Hp f n) : UpI f (n + 1) n := ⟨fun k k0 kn kj => h k k0 (by omega), fun k k0 kn kp n0 => by have := par_lt k0; omega⟩
end Go.Proofs.Ytcpcgpanmoellaa
