/-
  TreeBack, plainly.
-/
import Derived.Test.YtadkjjpopmiceaaTbg
namespace Go.Proofs.Ytadkjjpopmiceaa
open Go.RowKit Go.Lib

theorem For.shift {l : List Tw} {lo hi a : Int} {n e : Nat} {rs : List Nat} (t : Tw) (h : For l lo hi a n e rs) : For (t :: l) lo hi a (n + 1) (e + 1) (rs.map (· + 1)) := by
  induction h with
  | nil => exact .nil
  | @cons lo hi a n m e ks rs h0 hk hlo hhi ha h3 h5 h4 h1 h2 =>
    have ha' : atT (t :: l) (n + 1) = atT l n := by simp [atT]
    exact .cons (m := m + 1) (ks := ks.map (· + 1)) (by simp; omega) (by rw [ha']; exact hk) (by rw [ha']; exact hlo) (by rw [ha']; exact hhi) (by rw [ha']; exact ha) (by rw [ha']; exact h1) (by rw [ha', List.length_map]; exact h5) (by rw [ha']; exact h2)
abbrev over (n : Nat) : Tw := ⟨1, 2, 0, 9223372036854775807, (n : Int)⟩
theorem right_over {l : List Tw} (h : rightB l = true) : rightB (over (topR l).length :: l) = true := by
  obtain ⟨rs, hF⟩ := (rightB_iff l).1 h
  rw [topR_of h hF]
  refine (rightB_iff _).2 ⟨[0], ?_⟩
  have hs := hF.shift (over rs.length)
  exact .cons (m := l.length + 1) (ks := rs.map (· + 1)) (by simp) (by simp [atT, okT]) (by simp [atT]) (by simp [atT]) (by simp [atT]) (by simpa [atT] using hs) (by simp [atT]) (by rw [List.length_cons]; exact .nil)
theorem mark_zero {l : List Tw} (h : rightB l = true) : isMark l 0 = true := by
  obtain ⟨rs, hF⟩ := (rightB_iff l).1 h
  simp only [isMark, anyN, topR_of h hF, Bool.or_eq_true, List.any_eq_true]
  by_cases hl : 0 < l.length
  · obtain ⟨m, ks, rs', rfl, -, -⟩ := hF.split hl
    exact .inr ⟨0, by simp, by simp⟩
  · exact .inl (by simp; omega)
theorem kidsM_zero (l : List Tw) : kidsM l 0 = (topR l).length := by
  unfold kidsM
  rw [List.filter_eq_self.2 (fun x _ => by simp)]
theorem wrap_over {l : List Tw} {most : Nat} (h : rightB l = true) (hm : l.length + 1 ≤ most) : bWrap most l 0 1 2 0 9223372036854775807 = (0, over (topR l).length :: l) := by
  unfold bWrap
  rw [if_pos (mark_zero h), kidsM_zero]
  have hw : wrapL l (Int.toNat 0) (over (topR l).length) = over (topR l).length :: l := by simp [wrapL]
  rw [hw, if_pos (right_over h), if_pos hm]
theorem put_back {l : List Tw} {most : Nat} (h : rightB l = true) (hm : l.length ≤ most) : bPut most [] l = (0, l) := by
  unfold bPut
  simp [h, hm]
theorem back_zero {l : List Tw} (h : rightB l = true) : bBack l 0 = (0, []) := by
  unfold bBack
  rw [if_pos (mark_zero h)]
  simp
/-- where the last root ends. -/
def endTo (l : List Tw) : Int := match (topR l).getLast? with
  | none => 0
  | some r => (atT l r).to
def tail3 (e : Int) : List Tw := [⟨0, 0, e, e, 0⟩, ⟨0, 0, e, 9223372036854775807, 1⟩, ⟨0, 0, e, e, 0⟩]
theorem For.snoc {l : List Tw} {lo hi a : Int} {n e : Nat} {rs : List Nat} (h : For l lo hi a n e rs) : ∀ {f : Nat} {rs2 : List Nat}, For l lo hi (match rs.getLast? with | none => a | some r => (atT l r).to) e f rs2 → For l lo hi a n f (rs ++ rs2) := by
  induction h with
  | nil => intro f rs2 h2; simpa using h2
  | @cons lo hi a n m e ks rs h0 hk hlo hhi ha h3 h5 h4 h1 h2 =>
    intro f rs2 hh
    refine .cons h0 hk hlo hhi ha h3 h5 (h2 ?_)
    cases rs with
    | nil => simpa using hh
    | cons b r =>
      rw [List.getLast?_cons_cons] at hh
      obtain ⟨y, hy⟩ : ∃ y, (b :: r).getLast? = some y := ⟨_, List.getLast?_eq_some_getLast (by simp)⟩
      rw [hy] at hh ⊢
      exact hh
theorem endTo_ok {l : List Tw} (h : rightB l = true) : 0 ≤ endTo l ∧ endTo l ≤ 9223372036854775807 := by
  obtain ⟨rs, hF⟩ := (rightB_iff l).1 h
  unfold endTo
  rw [topR_of h hF]
  cases hg : rs.getLast? with
  | none => simp
  | some r =>
    have := hF.ends.1 r (List.mem_of_getLast? hg)
    unfold okT at this
    simp only
    omega
theorem for_tail {l : List Tw} {e : Int} (h0 : 0 ≤ e) (h1 : e ≤ 9223372036854775807) : For (l ++ tail3 e) 0 9223372036854775807 e l.length (l.length + 3) [l.length, l.length + 1] := by
  have a0 : atT (l ++ tail3 e) l.length = ⟨0, 0, e, e, 0⟩ := by simp [atT, tail3, List.getD_eq_getElem?_getD, List.getElem?_append]
  have a1 : atT (l ++ tail3 e) (l.length + 1) = ⟨0, 0, e, 9223372036854775807, 1⟩ := by simp [atT, tail3, List.getD_eq_getElem?_getD, List.getElem?_append]
  have a2 : atT (l ++ tail3 e) (l.length + 1 + 1) = ⟨0, 0, e, e, 0⟩ := by
    have : l.length + 1 + 1 - l.length = 2 := by omega
    unfold atT
    rw [List.getD_eq_getElem?_getD, List.getElem?_append_right (by omega), this]
    rfl
  have hl : (l ++ tail3 e).length = l.length + 3 := by simp [tail3]
  refine .cons (m := l.length + 1) (ks := []) (by rw [hl]; omega) (by rw [a0]; simp [okT]; omega) (by rw [a0]; exact h0) (by rw [a0]; exact h1) (by rw [a0]; exact Int.le_refl _) .nil (by rw [a0]; rfl) ?_
  rw [a0]
  refine .cons (m := l.length + 3) (ks := [l.length + 1 + 1]) (by rw [hl]; omega) (by rw [a1]; simp [okT]; omega) (by rw [a1]; exact h0) (by rw [a1]; exact Int.le_refl _) (by rw [a1]; exact Int.le_refl _) ?_ (by rw [a1]; rfl) .nil
  rw [a1]
  refine .cons (m := l.length + 3) (ks := []) (by rw [hl]; omega) (by rw [a2]; simp [okT]; omega) (by rw [a2]; exact Int.le_refl _) (by rw [a2]; exact h1) (by rw [a2]; exact Int.le_refl _) .nil (by rw [a2]; rfl) .nil
theorem For.weak {l : List Tw} {lo hi a a' : Int} {n e : Nat} {rs : List Nat} (h : For l lo hi a n e rs) (ha' : a' ≤ a) : For l lo hi a' n e rs := by
  cases h with
  | nil => exact .nil
  | cons h0 hk hlo hhi ha h3 h5 h4 => exact .cons h0 hk hlo hhi (by omega) h3 h5 h4
theorem right_tail {e : Int} (h0 : 0 ≤ e) (h1 : e ≤ 9223372036854775807) : rightB (tail3 e) = true := by
  have := for_tail (l := []) h0 h1
  simp only [List.nil_append, List.length_nil] at this
  exact (rightB_iff _).2 ⟨[0, 0 + 1], this.weak h0⟩
theorem right_both {l : List Tw} (h : rightB l = true) : rightB (l ++ tail3 (endTo l)) = true ∧ isMark (l ++ tail3 (endTo l)) l.length = true := by
  obtain ⟨h0, h1⟩ := endTo_ok h
  obtain ⟨rs, hF⟩ := (rightB_iff l).1 h
  have hT := for_tail (l := l) h0 h1
  have hl : (l ++ tail3 (endTo l)).length = l.length + 3 := by simp [tail3]
  have hA : ∀ i, i < l.length → atT (l ++ tail3 (endTo l)) i = atT l i := fun i hi => by simp [atT, List.getD_eq_getElem?_getD, List.getElem?_append, hi]
  have hF2 : For (l ++ tail3 (endTo l)) 0 9223372036854775807 0 0 l.length rs := hF.take (fun i i1 i2 => ⟨by rw [hl]; omega, hA i i2⟩)
  have hR := hF2.snoc (f := l.length + 3) (rs2 := [l.length, l.length + 1]) (by
    have he : (match rs.getLast? with | none => (0 : Int) | some r => (atT (l ++ tail3 (endTo l)) r).to) = endTo l := by
      conv => rhs; unfold endTo
      rw [topR_of h hF]
      cases hg : rs.getLast? with
      | none => rfl
      | some r =>
        simp only
        rw [hA r (hF.root r (List.mem_of_getLast? hg)).2]
    rw [he]
    exact hT)
  rw [← hl] at hR
  have hr := (rightB_iff _).2 ⟨_, hR⟩
  refine ⟨hr, ?_⟩
  simp only [isMark, anyN, topR_of hr hR, Bool.or_eq_true, List.any_eq_true]
  exact .inr ⟨l.length, by simp, by simp⟩
theorem put_tail {l : List Tw} {most : Nat} (h : rightB l = true) (hm : l.length + 3 ≤ most) : bPut most l (tail3 (endTo l)) = (0, l ++ tail3 (endTo l)) := by
  obtain ⟨h0, h1⟩ := endTo_ok h
  have hl : (l ++ tail3 (endTo l)).length = l.length + 3 := by simp [tail3]
  unfold bPut
  simp only [right_tail h0 h1, (right_both h).1, if_true]
  simp [tail3]
  omega
theorem back_tail {l : List Tw} (h : rightB l = true) : bBack (l ++ tail3 (endTo l)) l.length = (0, l) := by
  unfold bBack
  rw [if_pos (right_both h).2]
  simp
theorem bPut_len (most : Nat) (l l2 : List Tw) : (bPut most l l2).2.length ≤ l.length + l2.length := by
  unfold bPut
  repeat' split
  all_goals simp
theorem bWrap_len (most : Nat) (l : List Tw) (n rule lev fr tz : Int) (h : rightB l = true) : (bWrap most l n rule lev fr tz).2.length ≤ l.length + 1 := by
  unfold bWrap
  split
  · rename_i hm
    obtain ⟨m, rfl, hml⟩ := mark_le hm h
    rw [Int.toNat_natCast]
    repeat' split
    all_goals simp [wrapL_len hml]
  · simp
end Go.Proofs.Ytadkjjpopmiceaa
