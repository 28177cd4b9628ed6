/-
  Forests as rows of twigs, plainly.
-/
namespace Go.Proofs.YtkimkghldilliaaGreat

/-- a twig. -/
structure Tw where
  rule : Int
  lev : Int
  fr : Int
  to : Int
  kids : Int
deriving DecidableEq

def okT (t : Tw) : Prop := 0 ≤ t.rule ∧ 0 ≤ t.lev ∧ t.lev ≤ 99 ∧ 0 ≤ t.kids ∧ 0 ≤ t.fr ∧ t.fr ≤ t.to
instance (t : Tw) : Decidable (okT t) := by unfold okT; exact inferInstance
def atT (l : List Tw) (n : Nat) : Tw := l.getD n ⟨0, 0, 0, 0, 0⟩
theorem atT_get (l : List Tw) {n : Nat} (h : n < l.length) : atT l n = l[n] := by simp [atT, h]

/-- from n to e trees stand, with their roots at rs, within lo to hi, from a on. -/
inductive For (l : List Tw) : Int → Int → Int → Nat → Nat → List Nat → Prop
  | nil {lo hi a : Int} {n : Nat} : For l lo hi a n n []
  | cons {lo hi a : Int} {n m e : Nat} {ks rs : List Nat} : n < l.length → okT (atT l n) → lo ≤ (atT l n).fr → (atT l n).to ≤ hi → a ≤ (atT l n).fr →
      For l (atT l n).fr (atT l n).to (atT l n).fr (n + 1) m ks → (ks.length : Int) = (atT l n).kids → For l lo hi (atT l n).to m e rs → For l lo hi a n e (n :: rs)
theorem For.le {l : List Tw} {lo hi a : Int} {n e : Nat} {rs : List Nat} (h : For l lo hi a n e rs) : n ≤ e := by
  induction h with
  | nil => exact Nat.le_refl _
  | @cons lo hi a n m e ks rs h0 hk hlo hhi ha h3 h5 h4 h1 h2 => omega
theorem For.lt {l : List Tw} {lo hi a : Int} {n e : Nat} {rs : List Nat} (h : For l lo hi a n e rs) : n < e → e ≤ l.length := by
  induction h with
  | nil => intro h; omega
  | @cons lo hi a n m e ks rs h0 hk hlo hhi ha h3 h5 h4 h1 h2 =>
    intro _
    have := h3.le
    have := h4.le
    by_cases hm : m < e
    · exact h2 hm
    · have : m = e := by omega
      subst this
      by_cases hn : n + 1 < m
      · exact h1 hn
      · omega
/-- n's tree ends ahead of m, its kids are at ks. -/
def Sub (l : List Tw) (n m : Nat) (ks : List Nat) : Prop :=
  n < l.length ∧ okT (atT l n) ∧ (ks.length : Int) = (atT l n).kids ∧ For l (atT l n).fr (atT l n).to (atT l n).fr (n + 1) m ks
theorem Sub.lt {l : List Tw} {n m : Nat} {ks : List Nat} (h : Sub l n m ks) : n < m ∧ m ≤ l.length := by
  obtain ⟨h1, _, _, h4⟩ := h
  have := h4.le
  refine ⟨by omega, ?_⟩
  by_cases hn : n + 1 < m
  · exact h4.lt hn
  · omega
/-- each twig has a tree. -/
theorem For.sub {l : List Tw} {lo hi a : Int} {n e : Nat} {rs : List Nat} (h : For l lo hi a n e rs) : ∀ i, n ≤ i → i < e → ∃ m ks, Sub l i m ks ∧ m ≤ e := by
  induction h with
  | nil => intro i h1 h2; omega
  | @cons lo hi a n m e ks rs h0 hk hlo hhi ha h3 h5 h4 h1 h2 =>
    intro i hi1 hi2
    have g3 := h3.le
    have g4 := h4.le
    by_cases hin : i = n
    · subst hin
      exact ⟨m, ks, ⟨h0, hk, h5, h3⟩, g4⟩
    by_cases him : i < m
    · obtain ⟨m', ks', g, g'⟩ := h1 i (by omega) him
      exact ⟨m', ks', g, by omega⟩
    · exact h2 i (by omega) hi2
theorem For.root {l : List Tw} {lo hi a : Int} {n e : Nat} {rs : List Nat} (h : For l lo hi a n e rs) : ∀ r ∈ rs, n ≤ r ∧ r < e := by
  induction h with
  | nil => intro r hr; simp at hr
  | @cons lo hi a n m e ks rs h0 hk hlo hhi ha h3 h5 h4 h1 h2 =>
    intro r hr
    have g3 := h3.le
    have g4 := h4.le
    rcases List.mem_cons.1 hr with rfl | hr
    · omega
    · have := h2 r hr; omega

/-! ## the loop of after -/
def sm (l : List Tw) (a : Nat) : Nat → Int
  | 0 => 0
  | i + 1 => sm l a i + ((atT l (a + i)).kids - 1)
theorem sm_add (l : List Tw) (a i : Nat) : ∀ j, sm l a (i + j) = sm l a i + sm l (a + i) j
  | 0 => by simp [sm]
  | j + 1 => by rw [← Nat.add_assoc]; simp only [sm]; rw [sm_add l a i j]; rw [show a + (i + j) = a + i + j from by omega]; omega
theorem For.sum {l : List Tw} {lo hi a : Int} {n e : Nat} {rs : List Nat} (h : For l lo hi a n e rs) : sm l n (e - n) = - (rs.length : Int) ∧ ∀ i, i < e - n → 0 < (rs.length : Int) + sm l n i := by
  induction h with
  | nil => simp [sm]
  | @cons lo hi a n m e ks rs h0 hk hlo hhi ha h3 h5 h4 h1 h2 =>
    have g3 := h3.le
    have g4 := h4.le
    obtain ⟨a1, a2⟩ := h1
    obtain ⟨b1, b2⟩ := h2
    have key : ∀ j, sm l n (1 + j) = (atT l n).kids - 1 + sm l (n + 1) j := fun j => by
      rw [sm_add]; simp [sm]
    have key2 : ∀ j, sm l n (m - n + j) = - 1 + sm l m j := fun j => by
      rw [sm_add, show n + (m - n) = m from by omega, show m - n = 1 + (m - (n + 1)) from by omega, key, a1]
      omega
    refine ⟨?_, fun i hi => ?_⟩
    · rw [show e - n = m - n + (e - m) from by omega, key2, b1]
      simp
      omega
    · simp only [List.length_cons]
      by_cases hi0 : i = 0
      · subst hi0; simp [sm] <;> omega
      by_cases him : i < m - n
      · obtain ⟨j, rfl⟩ : ∃ j, i = 1 + j := ⟨i - 1, by omega⟩
        have := a2 j (by omega)
        rw [key]
        omega
      · obtain ⟨j, rfl⟩ : ∃ j, i = m - n + j := ⟨i - (m - n), by omega⟩
        have := b2 j (by omega)
        rw [key2]
        omega
theorem Sub.sum {l : List Tw} {n m : Nat} {ks : List Nat} (h : Sub l n m ks) : 1 + sm l n (m - n) = 0 ∧ ∀ i, i < m - n → 0 < 1 + sm l n i := by
  have hlt := h.lt
  obtain ⟨h1, h2, h3, h4⟩ := h
  have h5 : For l (atT l n).fr (atT l n).to (atT l n).fr n m [n] := .cons h1 h2 (by simp) (by simp) (by simp) h4 h3 .nil
  obtain ⟨g1, g2⟩ := h5.sum
  simp at g1 g2
  exact ⟨by omega, g2⟩

/-! ## the stack -/
structure Op where
  left : Int
  sf : Int
  st : Int
  to : Int
deriving DecidableEq
def takesB (o : Op) (t : Tw) : Bool := decide (okT t ∧ o.sf ≤ t.fr ∧ t.to ≤ o.st ∧ o.to ≤ t.fr)
/-- the stack, its top first. -/
def pops : List Op → List Op
  | [] => []
  | o :: S => if o.left = 0 then pops S else o :: S
def stepS (t : Tw) (S : List Op) : Option (List Op) :=
  match pops S with
  | [] => none
  | o :: S' => if takesB o t then some (⟨t.kids, t.fr, t.to, t.fr⟩ :: ⟨o.left - 1, o.sf, o.st, t.to⟩ :: S') else none
def runS : List Tw → List Op → Option (List Op)
  | [], S => some S
  | t :: r, S => (stepS t S).bind (runS r)
/-- all but the last are done. -/
def doneS : List Op → Bool
  | [] => true
  | o :: S => match S with
    | [] => true
    | _ :: _ => decide (o.left = 0) && doneS S
def accS (l : List Tw) (n : Nat) : List Op → Prop
  | [] => False
  | o :: S => match S with
    | [] => ∃ rs, For l o.sf o.st o.to n l.length rs
    | _ :: _ => ∃ m rs, For l o.sf o.st o.to n m rs ∧ (rs.length : Int) = o.left ∧ accS l m S
def botS : List Op → Int
  | [] => 0
  | o :: S => match S with
    | [] => o.left
    | _ :: _ => botS S
theorem For.nil_inv {l : List Tw} {lo hi a : Int} {n e : Nat} (h : For l lo hi a n e []) : n = e := by
  cases h; rfl
theorem For.end_inv {l : List Tw} {lo hi a : Int} {e : Nat} {rs : List Nat} (h : For l lo hi a l.length e rs) : rs = [] ∧ e = l.length := by
  cases h with
  | nil => exact ⟨rfl, rfl⟩
  | cons h0 => omega
theorem accS_skip {l : List Tw} {n : Nat} {o o2 : Op} {S : List Op} (h : o.left = 0) : accS l n (o :: o2 :: S) ↔ accS l n (o2 :: S) := by
  constructor
  · rintro ⟨m, rs, h1, h2, h3⟩
    have : rs = [] := List.eq_nil_of_length_eq_zero (by omega)
    subst this
    rw [h1.nil_inv]
    exact h3
  · intro h3
    exact ⟨n, [], .nil, by simp [h], h3⟩
theorem accS_pops {l : List Tw} {n : Nat} : ∀ S : List Op, 0 < botS S → (accS l n S ↔ accS l n (pops S)) ∧ botS (pops S) = botS S ∧ pops S ≠ []
  | [], h => by simp [botS] at h
  | [o], h => by
    have : o.left ≠ 0 := by simp [botS] at h; omega
    simp [pops, this]
  | o :: o2 :: S, h => by
    by_cases h0 : o.left = 0
    · obtain ⟨h1, h2, h3⟩ := accS_pops (l := l) (n := n) (o2 :: S) h
      rw [pops, if_pos h0]
      exact ⟨(accS_skip h0).trans h1, h2, h3⟩
    · rw [pops, if_neg h0]
      simp
theorem accS_step {l : List Tw} {n : Nat} {o : Op} {S : List Op} (hn : n < l.length) (h0 : S = [] ∨ o.left ≠ 0) : accS l n (o :: S) ↔ takesB o (atT l n) = true ∧ accS l (n + 1) (⟨(atT l n).kids, (atT l n).fr, (atT l n).to, (atT l n).fr⟩ :: ⟨o.left - 1, o.sf, o.st, (atT l n).to⟩ :: S) := by
  cases S with
  | nil =>
    constructor
    · rintro ⟨rs, h⟩
      generalize he : l.length = e at h
      cases h with
      | nil => omega
      | @cons _ _ _ _ m _ ks rs h0 hk hlo hhi ha h3 h5 h4 =>
        subst he
        exact ⟨by simp [takesB, hk, hlo, hhi, ha], m, ks, h3, h5, rs, h4⟩
    · rintro ⟨h1, m, ks, h3, h5, rs, h4⟩
      simp [takesB] at h1
      exact ⟨_, .cons hn h1.1 h1.2.1 h1.2.2.1 h1.2.2.2 h3 h5 h4⟩
  | cons o2 S =>
    have h0' : o.left ≠ 0 := by simpa using h0
    constructor
    · rintro ⟨e, rs, h, hl, hS⟩
      cases h with
      | nil => simp at hl; omega
      | @cons _ _ _ _ m _ ks rs h0 hk hlo hhi ha h3 h5 h4 =>
        exact ⟨by simp [takesB, hk, hlo, hhi, ha], m, ks, h3, h5, e, rs, h4, by simp at hl ⊢; omega, hS⟩
    · rintro ⟨h1, m, ks, h3, h5, e, rs, h4, hl, hS⟩
      simp [takesB] at h1
      exact ⟨e, _, .cons hn h1.1 h1.2.1 h1.2.2.1 h1.2.2.2 h3 h5 h4, by simp at hl ⊢; omega, hS⟩
theorem drop_at (l : List Tw) {n : Nat} (h : n < l.length) : l.drop n = atT l n :: l.drop (n + 1) := by
  rw [atT_get l h, List.drop_eq_getElem_cons h]
theorem run_acc (l : List Tw) : ∀ (k n : Nat) (S : List Op), n + k = l.length → S ≠ [] → (k : Int) ≤ botS S → ((∃ S', runS (l.drop n) S = some S' ∧ doneS S' = true) ↔ accS l n S)
  | 0, n, S, hn, hS, hb => by
    obtain rfl : n = l.length := by omega
    rw [List.drop_length]
    simp only [runS, Option.some.injEq, exists_eq_left']
    clear hb
    induction S with
    | nil => exact absurd rfl hS
    | cons o S ih =>
      cases S with
      | nil => simp only [doneS, accS, true_iff]; exact ⟨[], .nil⟩
      | cons o2 S =>
        rw [show doneS (o :: o2 :: S) = (decide (o.left = 0) && doneS (o2 :: S)) from rfl, Bool.and_eq_true, decide_eq_true_eq, ih (by simp)]
        constructor
        · rintro ⟨h1, h2⟩
          exact ⟨_, [], .nil, by simp [h1], h2⟩
        · rintro ⟨m, rs, h1, h2, h3⟩
          obtain ⟨rfl, rfl⟩ := h1.end_inv
          exact ⟨by simp at h2; omega, h3⟩
  | k + 1, n, S, hn, hS, hb => by
    have hlt : n < l.length := by omega
    obtain ⟨h1, h2, h3⟩ := accS_pops (l := l) (n := n) S (by omega)
    rw [drop_at l hlt, h1]
    simp only [runS, stepS]
    have hp : ∀ o S', pops S = o :: S' → S' = [] ∨ o.left ≠ 0 := fun o S' h => by
      right
      intro h0
      have : ∀ T : List Op, pops T = o :: S' → False := fun T => by
        induction T with
        | nil => simp [pops]
        | cons a T ih =>
          simp only [pops]
          split
          · exact ih
          · intro h; cases h; omega
      exact this S h
    cases hps : pops S with
    | nil => exact absurd hps h3
    | cons o S' =>
      have hb' : botS (o :: S') = botS S := by rw [← hps, h2]
      rw [accS_step hlt (hp o S' hps)]
      by_cases ht : takesB o (atT l n) = true
      · simp only [ht, if_true, Option.bind_some, true_and]
        refine run_acc l k (n + 1) _ (by omega) (by simp) ?_
        cases S' with
        | nil => simp only [botS] at hb' ⊢; omega
        | cons o2 S' => simp only [botS] at hb' ⊢; omega
      · simp [ht]
/-- a right forest. -/
def RightP (l : List Tw) : Prop := ∃ rs, For l 0 9223372036854775807 0 0 l.length rs
theorem right_run (l : List Tw) : (∃ S', runS l [⟨l.length, 0, 9223372036854775807, 0⟩] = some S' ∧ doneS S' = true) ↔ RightP l := by
  have := run_acc l l.length 0 [⟨l.length, 0, 9223372036854775807, 0⟩] (by simp) (by simp) (by simp [botS])
  rw [List.drop_zero] at this
  exact this
end Go.Proofs.YtkimkghldilliaaGreat
