/-
  Forests, plainly: parents, heights, paths.
-/
import Derived.Test.YtkimkghldilliaaGreatTrB
namespace Go.Proofs.YtkimkghldilliaaGreat

/-- behind n's tree. -/
def aN (l : List Tw) (n : Nat) : Nat := (rAft l n).getD 0
theorem Sub.aN {l : List Tw} {n m : Nat} {ks : List Nat} (h : Sub l n m ks) : aN l n = m := by simp [YtkimkghldilliaaGreat.aN, h.aft]
theorem For.aN_le {l : List Tw} {lo hi a : Int} {n e : Nat} {rs : List Nat} (h : For l lo hi a n e rs) {p : Nat} (h1 : n ≤ p) (h2 : p < e) : aN l p ≤ e ∧ p < aN l p := by
  obtain ⟨m, ks, hs, hm⟩ := h.sub p h1 h2
  rw [hs.aN]
  exact ⟨hm, hs.lt.1⟩
/-- ahead of a root all trees have ended. -/
theorem For.before {l : List Tw} {lo hi a : Int} {n e : Nat} {rs : List Nat} (h : For l lo hi a n e rs) : ∀ r ∈ rs, ∀ p, n ≤ p → p < r → aN l p ≤ r := by
  induction h with
  | nil => intro r hr; simp at hr
  | @cons lo hi a n m e ks rs h0 hk hlo hhi ha h3 h5 h4 h1 h2 =>
    intro r hr p hp1 hp2
    have g3 := h3.le
    rcases List.mem_cons.1 hr with rfl | hr
    · omega
    have hmr := h4.root r hr
    by_cases hpm : m ≤ p
    · exact h2 r hr p hpm hp2
    by_cases hpn : p = n
    · subst hpn
      rw [Sub.aN (⟨h0, hk, h5, h3⟩ : Sub l p m ks)]
      omega
    · have := h3.aN_le (p := p) (by omega) (by omega)
      omega
/-- a twig is a root, or a kid. -/
theorem For.par {l : List Tw} {lo hi a : Int} {n e : Nat} {rs : List Nat} (h : For l lo hi a n e rs) : ∀ i, n ≤ i → i < e → i ∈ rs ∨ ∃ p m ks, n ≤ p ∧ p < i ∧ i < m ∧ m ≤ e ∧ Sub l p m ks ∧ i ∈ ks ∧ ∀ q, p < q → q < i → aN l q ≤ i := by
  induction h with
  | nil => intro i h1 h2; omega
  | @cons lo hi a n m e ks rs h0 hk hlo hhi ha h3 h5 h4 h1 h2 =>
    intro i hi1 hi2
    have g3 := h3.le
    have g4 := h4.le
    by_cases hin : i = n
    · left; simp [hin]
    by_cases him : i < m
    · right
      rcases h1 i (by omega) him with h | ⟨p, m', ks', a1, a2, a3, a4, a5, a6, a7⟩
      · exact ⟨n, m, ks, Nat.le_refl _, by omega, him, g4, ⟨h0, hk, h5, h3⟩, h, fun q q1 q2 => h3.before i h q (by omega) q2⟩
      · exact ⟨p, m', ks', by omega, a2, a3, by omega, a5, a6, a7⟩
    · rcases h2 i (by omega) hi2 with h | ⟨p, m', ks', a1, a2, a3, a4, a5, a6, a7⟩
      · left; simp [h]
      · right; exact ⟨p, m', ks', by omega, a2, a3, a4, a5, a6, a7⟩
/-- whose kid. -/
def Par (l : List Tw) (i p : Nat) : Prop := p < i ∧ ∃ m ks, Sub l p m ks ∧ i ∈ ks
theorem Par.in {l : List Tw} {i p : Nat} (h : Par l i p) : i < aN l p := by
  obtain ⟨h1, m, ks, hs, hi⟩ := h
  rw [hs.aN]
  exact (hs.2.2.2.root i hi).2
theorem Par.above {l : List Tw} {i p : Nat} (h : Par l i p) : ∀ q, p < q → q < i → aN l q ≤ i := by
  obtain ⟨h1, m, ks, hs, hi⟩ := h
  intro q h2 h3
  exact hs.2.2.2.before i hi q (by omega) h3
theorem Par.uniq {l : List Tw} {i p q : Nat} (h : Par l i p) (h' : Par l i q) : p = q := by
  rcases Nat.lt_trichotomy p q with hl | hl | hl
  · have := h.above q hl h'.1
    have := h'.in
    omega
  · exact hl
  · have := h'.above p hl h.1
    have := h.in
    omega
theorem Sub.kids_uniq {l : List Tw} {n m m' : Nat} {ks ks' : List Nat} (h : Sub l n m ks) (h' : Sub l n m' ks') : m = m' ∧ ks = ks' := by
  have h1 := h.aN
  have h2 := h'.aN
  have e1 := h.2.2.2.rowL
  have e2 := h'.2.2.2.rowL
  have : ks.length = ks'.length := by have := h.2.2.1; have := h'.2.2.1; omega
  rw [this, e2] at e1
  simp at e1
  exact ⟨by omega, e1.symm⟩
/-- in a right forest: the parent is the greatest one ahead that has not ended. -/
theorem right_par {l : List Tw} (h : RightP l) {i : Nat} (hi : i < l.length) : (∃ p, Par l i p ∧ i < aN l p ∧ ∀ q, p < q → q < i → aN l q ≤ i) ∨ ((∀ p, ¬ Par l i p) ∧ ∀ q, q < i → aN l q ≤ i) := by
  obtain ⟨rs, h⟩ := h
  rcases h.par i (Nat.zero_le _) hi with h1 | ⟨p, m, ks, -, h2, h3, -, h4, h5, h6⟩
  · right
    have hb := h.before i h1
    refine ⟨fun p hp => ?_, fun q hq => hb q (Nat.zero_le _) hq⟩
    have := hp.in
    have := hb p (Nat.zero_le _) hp.1
    omega
  · left
    exact ⟨p, ⟨h2, m, ks, h4, h5⟩, by rw [h4.aN]; exact h3, h6⟩

/-! ## heights -/
/-- how many from s on have i in their trees. -/
def dep (l : List Tw) (s i : Nat) : Nat := ((List.range' s (i + 1 - s)).filter fun p => decide (i < aN l p)).length
def mxd (l : List Tw) (s : Nat) : Nat → Nat
  | 0 => 0
  | k + 1 => max (mxd l s k) (dep l s (s + k))
theorem mxd_le (l : List Tw) (s : Nat) : ∀ (k d : Nat), mxd l s k ≤ d ↔ ∀ i, s ≤ i → i < s + k → dep l s i ≤ d
  | 0, d => by simp [mxd]; intro i h1 h2; omega
  | k + 1, d => by
    simp only [mxd, Nat.max_le]
    rw [mxd_le l s k d]
    constructor
    · rintro ⟨h1, h2⟩ i hi1 hi2
      by_cases he : i = s + k
      · subst he; exact h2
      · exact h1 i hi1 (by omega)
    · intro h
      exact ⟨fun i h1 h2 => h i h1 (by omega), h _ (by omega) (by omega)⟩
theorem dep_cons {l : List Tw} {s i : Nat} (h : s ≤ i) : dep l s i = (if i < aN l s then 1 else 0) + dep l (s + 1) i := by
  unfold dep
  rw [show i + 1 - s = (i + 1 - (s + 1)) + 1 from by omega, List.range'_succ, List.filter_cons]
  by_cases hc : i < aN l s <;> simp [hc]
  omega
theorem dep_gap {l : List Tw} {i m : Nat} : ∀ (k s : Nat), m = s + k → m ≤ i + 1 → (∀ p, s ≤ p → p < m → aN l p ≤ i) → dep l s i = dep l m i
  | 0, s, hm, _, _ => by rw [hm, Nat.add_zero]
  | k + 1, s, hm, hi, h => by
    rw [dep_cons (by omega), if_neg (by have := h s (Nat.le_refl _) (by omega); omega), Nat.zero_add]
    exact dep_gap k (s + 1) (by omega) hi (fun p h1 h2 => h p (by omega) h2)
theorem dep_self {l : List Tw} {i : Nat} : dep l (i + 1) i = 0 := by simp [dep]
/-- the height of a forest, by its roots. -/
theorem For.mx {l : List Tw} {lo hi a : Int} {n e : Nat} {rs : List Nat} (h : For l lo hi a n e rs) : ∀ d, mxd l n (e - n) ≤ d ↔ ∀ r ∈ rs, 1 + mxd l (r + 1) (aN l r - (r + 1)) ≤ d := by
  induction h with
  | nil => intro d; simp [mxd]
  | @cons lo hi a n m e ks rs h0 hk hlo hhi ha h3 h5 h4 h1 h2 =>
    intro d
    have g3 := h3.le
    have g4 := h4.le
    have hA : aN l n = m := Sub.aN (⟨h0, hk, h5, h3⟩ : Sub l n m ks)
    rw [mxd_le]
    simp only [List.mem_cons, forall_eq_or_imp]
    rw [← h2 d, hA, mxd_le]
    have e1 : ∀ i, n < i → i < m → dep l n i = 1 + dep l (n + 1) i := fun i i1 i2 => by
      rw [dep_cons (by omega), if_pos (by omega)]
    have e2 : ∀ i, m ≤ i → dep l n i = dep l m i := fun i i1 => dep_gap (m - n) n (by omega) (by omega) (fun p p1 p2 => by
      by_cases hpn : p = n
      · subst hpn; omega
      · have := h3.aN_le (p := p) (by omega) p2; omega)
    have e3 : dep l n n = 1 := by rw [dep_cons (Nat.le_refl _), if_pos (by omega), dep_self]
    constructor
    · intro h
      refine ⟨?_, fun i i1 i2 => by rw [← e2 i i1]; exact h i (by omega) (by omega)⟩
      have hd : 1 ≤ d := by have := h n (Nat.le_refl _) (by omega); omega
      have : mxd l (n + 1) (m - (n + 1)) ≤ d - 1 := (mxd_le l _ _ _).2 fun i i1 i2 => by
        have := h i (by omega) (by omega)
        rw [e1 i (by omega) (by omega)] at this
        omega
      omega
    · rintro ⟨b1, b2⟩ i i1 i2
      by_cases hin : i = n
      · subst hin; omega
      by_cases him : i < m
      · rw [e1 i (by omega) him]
        have := (mxd_le l (n + 1) (m - (n + 1)) (d - 1)).1 (by omega) i (by omega) (by omega)
        omega
      · rw [e2 i (by omega)]
        exact b2 i (by omega) (by omega)

/-! ## paths -/
def hasB (t : Tw) (p : Int) : Bool := decide (t.fr ≤ p ∧ p < t.to)
theorem For.spans {l : List Tw} {lo hi a : Int} {n e : Nat} {rs : List Nat} (h : For l lo hi a n e rs) : ∀ i, n ≤ i → i < e → a ≤ (atT l i).fr ∧ lo ≤ (atT l i).fr ∧ (atT l i).to ≤ hi := by
  induction h with
  | nil => intro i h1 h2; omega
  | @cons lo hi a n m e ks rs h0 hk hlo hhi ha h3 h5 h4 h1 h2 =>
    intro i hi1 hi2
    unfold okT at hk
    by_cases hin : i = n
    · subst hin; exact ⟨ha, hlo, hhi⟩
    by_cases him : i < m
    · obtain ⟨b1, b2, b3⟩ := h1 i (by omega) him
      omega
    · obtain ⟨b1, b2, b3⟩ := h2 i (by omega) hi2
      omega
/-- the twigs of a place from n to e. -/
def onP (l : List Tw) (pl : Int) (n e : Nat) : List Nat := (List.range' n (e - n)).filter fun i => hasB (atT l i) pl
theorem onP_nil {l : List Tw} {pl : Int} {n e : Nat} (h : ∀ i, n ≤ i → i < e → hasB (atT l i) pl = false) : onP l pl n e = [] := by
  unfold onP
  rw [List.filter_eq_nil_iff]
  intro i hi
  rw [List.mem_range'_1] at hi
  simp [h i hi.1 (by omega)]
theorem onP_split {l : List Tw} {pl : Int} {n m e : Nat} (h1 : n ≤ m) (h2 : m ≤ e) : onP l pl n e = onP l pl n m ++ onP l pl m e := by
  unfold onP
  rw [← List.filter_append]
  congr 1
  rw [show e - n = (m - n) + (e - m) from by omega, ← List.range'_append, Nat.one_mul, show n + (m - n) = m from by omega]
theorem onP_cons {l : List Tw} {pl : Int} {n e : Nat} (h : n < e) : onP l pl n e = (if hasB (atT l n) pl then [n] else []) ++ onP l pl (n + 1) e := by
  rw [onP_split (m := n + 1) (by omega) (by omega)]
  congr 1
  unfold onP
  rw [show n + 1 - n = 1 from by omega]
  simp [List.range'_succ, List.filter_cons]
theorem For.path {l : List Tw} {lo hi a : Int} {n e : Nat} {rs : List Nat} (h : For l lo hi a n e rs) (pl : Int) :
    onP l pl n e = match rs.find? (fun r => hasB (atT l r) pl) with
      | none => []
      | some r => r :: onP l pl (r + 1) (aN l r) := by
  induction h with
  | nil => simp [onP]
  | @cons lo hi a n m e ks rs h0 hk hlo hhi ha h3 h5 h4 h1 h2 =>
    have g3 := h3.le
    have g4 := h4.le
    have hA : aN l n = m := Sub.aN (⟨h0, hk, h5, h3⟩ : Sub l n m ks)
    rw [onP_split (m := m) (by omega) g4, onP_cons (n := n) (e := m) (by omega), List.find?_cons]
    by_cases hh : hasB (atT l n) pl = true
    · simp only [hh, if_true, hA]
      rw [onP_nil (n := m) (e := e) (fun i i1 i2 => by
        have := h4.spans i i1 i2
        simp [hasB] at hh ⊢
        omega)]
      simp
    · have hf : hasB (atT l n) pl = false := by simpa using hh
      simp only [hf]
      rw [onP_nil (n := n + 1) (e := m) (fun i i1 i2 => by
        have := h3.spans i i1 i2
        simp [hasB] at hf ⊢
        omega), h2]
      simp
/-- those on a path have each other in their trees. -/
theorem For.path_dep {l : List Tw} {lo hi a : Int} {n e : Nat} {rs : List Nat} (h : For l lo hi a n e rs) (pl : Int) : (onP l pl n e).length ≤ mxd l n (e - n) := by
  induction h with
  | nil => simp [onP]
  | @cons lo hi a n m e ks rs h0 hk hlo hhi ha h3 h5 h4 h1 h2 =>
    have hF : For l lo hi a n e (n :: rs) := .cons h0 hk hlo hhi ha h3 h5 h4
    have hA : aN l n = m := Sub.aN (⟨h0, hk, h5, h3⟩ : Sub l n m ks)
    have hm := (hF.mx _).1 (Nat.le_refl _)
    have hm2 : mxd l m (e - m) ≤ mxd l n (e - n) := (h4.mx _).2 fun r hr => hm r (by simp [hr])
    have hm1 := hm n (by simp)
    rw [hA] at hm1
    rw [hF.path pl, List.find?_cons]
    by_cases hh : hasB (atT l n) pl = true
    · simp only [hh, hA, List.length_cons]
      omega
    · have hf : hasB (atT l n) pl = false := by simpa using hh
      simp only [hf]
      rw [← h4.path pl]
      omega
end Go.Proofs.YtkimkghldilliaaGreat
