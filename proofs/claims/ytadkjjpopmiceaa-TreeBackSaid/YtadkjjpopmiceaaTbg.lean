/-
  TreeFits, plainly.
-/
import Derived.Test.YtadkjjpopmiceaaTbf
namespace Go.Proofs.Ytadkjjpopmiceaa
open Go.RowKit Go.Lib

theorem For.uncons {l : List Tw} {lo hi a : Int} {n e r : Nat} {rs : List Nat} (h : For l lo hi a n e (r :: rs)) : ∃ m ks, Sub l r m ks ∧ For l lo hi (atT l r).to m e rs ∧ a ≤ (atT l r).fr ∧ (atT l r).to ≤ hi ∧ r = n ∧ m ≤ e := by
  cases h with
  | @cons lo hi a n m e ks rs h0 hk hlo hhi ha h3 h5 h4 => exact ⟨m, ks, ⟨h0, hk, h5, h3⟩, h4, ha, hhi, rfl, h4.le⟩
theorem For.nil_eq {l : List Tw} {lo hi a : Int} {n e : Nat} (h : For l lo hi a n e []) : n = e := by
  cases h
  rfl
/-- the last root's tree reaches the end. -/
theorem For.last {l : List Tw} {lo hi a : Int} {n e : Nat} {rs : List Nat} (h : For l lo hi a n e rs) (hn : rs ≠ []) : ∃ ks, Sub l (rs.getLast hn) e ks := by
  induction h with
  | nil => exact absurd rfl hn
  | @cons lo hi a n m e ks rs h0 hk hlo hhi ha h3 h5 h4 h1 h2 =>
    cases rs with
    | nil =>
      obtain rfl := h4.nil_eq
      exact ⟨ks, h0, hk, h5, h3⟩
    | cons b r =>
      have := h2 (by simp)
      rwa [List.getLast_cons (by simp)]
/-- behind each place of a forest there are fewer than are awaited. -/
theorem For.suffix {l : List Tw} {lo hi a : Int} {n e : Nat} {rs : List Nat} (h : For l lo hi a n e rs) {i : Nat} (h1 : n ≤ i) (h2 : i < e) : sm l i (e - i) ≤ -1 := by
  obtain ⟨s1, s2⟩ := h.sum
  have := s2 (i - n) (by omega)
  have h3 := sm_add l n (i - n) (e - i)
  rw [show i - n + (e - i) = e - n from by omega, show n + (i - n) = i from by omega] at h3
  omega
theorem sm_congr {l l' : List Tw} {a : Nat} : ∀ k, (∀ i, i < k → (atT l' (a + i)).kids = (atT l (a + i)).kids) → sm l' a k = sm l a k
  | 0, _ => rfl
  | k + 1, h => by
    simp only [sm]
    rw [sm_congr k (fun i hi => h i (by omega)), h k (by omega)]
/-- one twig with a kid more. -/
def raise (l : List Tw) (r : Nat) : List Tw := l.set r { atT l r with kids := (atT l r).kids + 1 }
theorem raise_len (l : List Tw) (r : Nat) : (raise l r).length = l.length := by simp [raise]
theorem raise_at {l : List Tw} {r : Nat} (hr : r < l.length) (i : Nat) : (atT (raise l r) i).kids = (atT l i).kids + (if i = r then 1 else 0) := by
  unfold raise atT
  by_cases h : i = r
  · subst h
    simp [hr]
  · simp [List.getD_eq_getElem?_getD, h, Ne.symm h]
theorem sm_raise {l : List Tw} {r : Nat} (hr : r < l.length) : ∀ k, sm (raise l r) r (k + 1) = sm l r (k + 1) + 1
  | 0 => by
    simp only [sm, Nat.add_zero]
    rw [raise_at hr]
    simp
  | k + 1 => by
    have := sm_raise hr k
    rw [sm, this, raise_at hr, if_neg (by omega)]
    simp only [sm]
    omega
theorem last_root {l : List Tw} (h : rightB l = true) (hl : l ≠ []) : ∃ (hn : topR l ≠ []) (r : Nat), r = (topR l).getLast hn ∧ r < l.length ∧ aN l r = l.length ∧ sm l r (l.length - r) = -1 ∧ r ∈ topR l := by
  obtain ⟨rs, hF⟩ := (rightB_iff l).1 h
  rw [topR_of h hF]
  have hn : rs ≠ [] := by
    rintro rfl
    have := hF.nil_eq
    exact hl (List.eq_nil_of_length_eq_zero this.symm)
  obtain ⟨ks, hs⟩ := hF.last hn
  have hsum := hs.sum.1
  exact ⟨hn, _, rfl, hs.lt.1, hs.aN, by omega, List.getLast_mem hn⟩
/-- with the last root's Kids raised it is not right. -/
theorem not_raised {l : List Tw} {r : Nat} (hr : r < l.length) (hs : sm l r (l.length - r) = -1) : rightB (raise l r) = false := by
  cases h : rightB (raise l r) with
  | false => rfl
  | true =>
    obtain ⟨rs, hF⟩ := (rightB_iff _).1 h
    have h1 := hF.suffix (Nat.zero_le r) (by rw [raise_len]; exact hr)
    rw [raise_len, show l.length - r = (l.length - r - 1) + 1 from by omega, sm_raise hr, show (l.length - r - 1) + 1 = l.length - r from by omega] at h1
    omega
/-- without its last twig it is right just if that was a root. -/
theorem right_less {l : List Tw} (h : rightB l = true) (hl : l ≠ []) : rightB (l.take (l.length - 1)) = (parF l (l.length - 1)).isNone := by
  obtain ⟨hn, r, hr, h1, h2, h3, h4⟩ := last_root h hl
  have hlen : 0 < l.length := by omega
  by_cases he : r = l.length - 1
  · rw [right_take (n := l.length - 1) h (by
      simp only [isMark, anyN, Bool.or_eq_true, List.any_eq_true]
      right
      exact ⟨r, h4, by simp; omega⟩)]
    obtain ⟨rs, hF⟩ := (rightB_iff l).1 h
    rw [topR_of h hF] at h4
    rw [← he, parF_none (fun q hq => hF.before r h4 q (Nat.zero_le _) hq)]
    rfl
  · have hp : (parF l (l.length - 1)).isNone = false := by
      rcases right_par ((rightB_iff l).1 h) (i := l.length - 1) (by omega) with ⟨p, hp, h5, h6⟩ | ⟨-, h5⟩
      · rw [parF_some hp.1 h5 h6]; rfl
      · have := h5 r (by omega)
        omega
    rw [hp]
    cases hx : rightB (l.take (l.length - 1)) with
    | false => rfl
    | true =>
      obtain ⟨rs, hF⟩ := (rightB_iff _).1 hx
      have hlt : (l.take (l.length - 1)).length = l.length - 1 := by rw [List.length_take]; omega
      have h5 := hF.suffix (Nat.zero_le r) (by rw [hlt]; omega)
      rw [hlt, sm_congr (l := l) _ (fun i hi => by rw [atT_take (by omega)])] at h5
      have h6 : sm l r (l.length - r) = sm l r (l.length - 1 - r) + ((atT l (l.length - 1)).kids - 1) := by
        rw [show l.length - r = (l.length - 1 - r) + 1 from by omega, sm, show r + (l.length - 1 - r) = l.length - 1 from by omega]
      obtain ⟨m, ks, hs⟩ := ((rightB_iff l).1 h).sub (n := l.length - 1) (by omega)
      have h7 := hs.2.2.2.len_le
      have h8 := hs.2.2.1
      have h9 := hs.lt
      omega
end Go.Proofs.Ytadkjjpopmiceaa
