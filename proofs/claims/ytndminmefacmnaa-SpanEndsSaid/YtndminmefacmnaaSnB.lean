/-
  What is not covered: each place is in just one gap.
-/
import Derived.Test.YtndminmefacmnaaSnA
namespace Go.Proofs.Ytndminmefacmnaa

theorem endU_spec (l : List Sg) (hi : Int) : ∀ (n : Nat) (p : Int), hi - p ≤ n → p ≤ hi → (∀ x, p ≤ x → x < endU l hi p → cov l x = false) ∧ p ≤ endU l hi p ∧ endU l hi p ≤ hi ∧ (cov l (endU l hi p) = true ∨ endU l hi p = hi) := by
  intro n
  induction n with
  | zero =>
    intro p h1 h2
    rw [endU_at (.inr (by omega))]
    exact ⟨fun x h3 h4 => by omega, Int.le_refl _, h2, .inr (by omega)⟩
  | succ n ih =>
    intro p h1 h2
    by_cases hp : p < hi
    · cases hc : cov l p with
      | true =>
        rw [endU_at (.inl hc)]
        exact ⟨fun x h3 h4 => by omega, Int.le_refl _, h2, .inl hc⟩
      | false =>
        rw [endU_go hp hc]
        obtain ⟨k1, k2, k3, k4⟩ := ih (p + 1) (by omega) (by omega)
        exact ⟨fun x h3 h4 => by
          by_cases hx : x = p
          · rw [hx]; exact hc
          · exact k1 x (by omega) h4, by omega, k3, k4⟩
    · rw [endU_at (.inr (by omega))]
      exact ⟨fun x h3 h4 => by omega, Int.le_refl _, h2, .inr (by omega)⟩
/-- how many of some spans have a place. -/
def cntS (g : List Sg) (p : Int) : Nat := g.countP (hasS · p)
theorem cnt_cons (a : Sg) (g : List Sg) (p : Int) : cntS (a :: g) p = cntS g p + if hasS a p then 1 else 0 := by
  unfold cntS
  rw [List.countP_cons]
/-- gaps rise, none is empty, no two touch. -/
def RiseS : Int → List Sg → Prop
  | _, [] => True
  | b, a :: r => b ≤ a.fr ∧ a.fr < a.to ∧ (∀ c ∈ r.head?, a.to < c.fr) ∧ RiseS a.to r
theorem canon_spec (l : List Sg) (hi : Int) : ∀ (n : Nat) (p : Int), hi - p ≤ n → 0 ≤ p → RiseS p (canon l hi p) ∧ (∀ a ∈ canon l hi p, p ≤ a.fr ∧ a.fr < a.to ∧ a.to ≤ hi) ∧ (∀ c ∈ (canon l hi p).head?, cov l p = true → p < c.fr) ∧
    ∀ x, cntS (canon l hi p) x = if p ≤ x ∧ x < hi ∧ cov l x = false then 1 else 0 := by
  intro n
  induction n with
  | zero =>
    intro p h1 h0
    rw [canon_end (by omega)]
    refine ⟨trivial, fun a ha => by simp at ha, fun c hc => by simp at hc, fun x => ?_⟩
    rw [if_neg (by omega)]
    rfl
  | succ n ih =>
    intro p h1 h0
    by_cases hp : p < hi
    · cases hc : cov l p with
      | true =>
        rw [canon_cov hp hc]
        obtain ⟨k1, k2, k3, k4⟩ := ih (p + 1) (by omega) (by omega)
        refine ⟨?_, fun a ha => ?_, fun c hc _ => ?_, fun x => ?_⟩
        · cases he : canon l hi (p + 1) with
          | nil => trivial
          | cons a r =>
            rw [he] at k1
            exact ⟨by have := k1.1; omega, k1.2⟩
        · have := k2 a ha; omega
        · have := k2 c (List.mem_of_mem_head? hc)
          omega
        · rw [k4 x]
          by_cases hx : x = p
          · subst hx
            rw [if_neg (by omega), if_neg (by rw [hc]; simp)]
          · by_cases h : p + 1 ≤ x ∧ x < hi ∧ cov l x = false
            · rw [if_pos h, if_pos ⟨by omega, h.2⟩]
            · rw [if_neg h, if_neg (fun h2 => h ⟨by omega, h2.2⟩)]
      | false =>
        obtain ⟨e1, e2, e3, e4⟩ := endU_spec l hi (hi - (p + 1)).toNat (p + 1) (Int.self_le_toNat _) (by omega)
        rw [canon_gap hp hc]
        generalize endU l hi (p + 1) = e at e1 e2 e3 e4 ⊢
        obtain ⟨k1, k2, k3, k4⟩ := ih e (by omega) (by omega)
        refine ⟨⟨Int.le_refl _, by simp only []; omega, fun c hc => ?_, k1⟩, fun a ha => ?_, fun c hc h => by simp at h, fun x => ?_⟩
        · rcases e4 with e4 | e4
          · exact k3 c hc e4
          · rw [canon_end (by omega)] at hc
            simp at hc
        · rcases List.mem_cons.1 ha with rfl | ha
          · exact ⟨Int.le_refl _, by simp only []; omega, e3⟩
          · have := k2 a ha; omega
        · rw [cnt_cons, k4 x]
          by_cases hx : p ≤ x ∧ x < e
          · have hh : hasS ⟨p, e⟩ x = true := has_iff.2 ⟨by simp only []; omega, hx.1, hx.2⟩
            have hcx : cov l x = false := by
              by_cases h : x = p
              · rw [h]; exact hc
              · exact e1 x (by omega) hx.2
            rw [hh, if_neg (by omega), if_pos rfl, if_pos ⟨hx.1, by omega, hcx⟩]
          · have hh : hasS ⟨p, e⟩ x = false := has_no (by simp only []; omega)
            rw [hh]
            simp only [Bool.false_eq_true, ↓reduceIte, Nat.add_zero]
            by_cases h : e ≤ x ∧ x < hi ∧ cov l x = false
            · rw [if_pos h, if_pos ⟨by omega, h.2⟩]
            · rw [if_neg h, if_neg (fun h2 => h ⟨by omega, h2.2⟩)]
    · rw [canon_end (by omega)]
      refine ⟨trivial, fun a ha => by simp at ha, fun c hc => by simp at hc, fun x => ?_⟩
      rw [if_neg (by omega)]
      rfl
theorem rise_get : ∀ (g : List Sg) (b : Int), RiseS b g → ∀ i (h : i + 1 < g.length), (g[i]'(by omega)).to < g[i + 1].fr
  | [], _, _, i, h => by simp at h
  | [a], _, _, i, h => by simp at h
  | a :: c :: r, b, hr, 0, h => hr.2.2.1 c rfl
  | a :: c :: r, b, hr, i + 1, h => by
    have := rise_get (c :: r) a.to hr.2.2.2 i (by simpa using h)
    simpa using this
theorem cov_more (l : List Sg) (m : Sg) (p : Int) : cov (l ++ [m]) p = (cov l p || hasS m p) := by
  unfold cov
  rw [List.any_append]
  simp
end Go.Proofs.Ytndminmefacmnaa
