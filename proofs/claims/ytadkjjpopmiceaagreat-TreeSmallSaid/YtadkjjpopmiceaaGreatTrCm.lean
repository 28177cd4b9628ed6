
/-
  Forests as rows of twigs, plainly.
-/
namespace Go.Proofs.YtadkjjpopmiceaaGreat

/-- a twig. -/
structure Tw where
  rule : Int
  lev : Int
  fr : Int
  to : Int
  kids : Int
deriving DecidableEq

def okT (t : Tw) : Prop := 0 ≤ t.rule ∧ 0 ≤ t.lev ∧ t.lev ≤ 99 ∧ 0 ≤ t.kids ∧ 0 ≤ t.fr ∧ t.fr ≤ t.to
instance (t : Tw) : Decidable (okT t) := by unfold okT; exact inferInstance
def atT (l : List Tw) (n : Nat) : Tw := l.getD n ⟨0, 0, 0, 0, 0⟩
theorem atT_get (l : List Tw) {n : Nat} (h : n < l.length) : atT l n = l[n] := by simp [atT, h]

/-- from n to e trees stand, with their roots at rs, within lo to hi, from a on. -/
inductive For (l : List Tw) : Int → Int → Int → Nat → Nat → List Nat → Prop
  | nil {lo hi a : Int} {n : Nat} : For l lo hi a n n []
  | cons {lo hi a : Int} {n m e : Nat} {ks rs : List Nat} : n < l.length → okT (atT l n) → lo ≤ (atT l n).fr → (atT l n).to ≤ hi → a ≤ (atT l n).fr →
      For l (atT l n).fr (atT l n).to (atT l n).fr (n + 1) m ks → (ks.length : Int) = (atT l n).kids → For l lo hi (atT l n).to m e rs → For l lo hi a n e (n :: rs)
theorem For.le {l : List Tw} {lo hi a : Int} {n e : Nat} {rs : List Nat} (h : For l lo hi a n e rs) : n ≤ e := by
  induction h with
  | nil => exact Nat.le_refl _
  | @cons lo hi a n m e ks rs h0 hk hlo hhi ha h3 h5 h4 h1 h2 => omega
theorem For.lt {l : List Tw} {lo hi a : Int} {n e : Nat} {rs : List Nat} (h : For l lo hi a n e rs) : n < e → e ≤ l.length := by
  induction h with
  | nil => intro h; omega
  | @cons lo hi a n m e ks rs h0 hk hlo hhi ha h3 h5 h4 h1 h2 =>
    intro _
    have := h3.le
    have := h4.le
    by_cases hm : m < e
    · exact h2 hm
    · have : m = e := by omega
      subst this
      by_cases hn : n + 1 < m
      · exact h1 hn
      · omega
/-- n's tree ends ahead of m, its kids are at ks. -/
def Sub (l : List Tw) (n m : Nat) (ks : List Nat) : Prop :=
  n < l.length ∧ okT (atT l n) ∧ (ks.length : Int) = (atT l n).kids ∧ For l (atT l n).fr (atT l n).to (atT l n).fr (n + 1) m ks
theorem Sub.lt {l : List Tw} {n m : Nat} {ks : List Nat} (h : Sub l n m ks) : n < m ∧ m ≤ l.length := by
  obtain ⟨h1, _, _, h4⟩ := h
  have := h4.le
  refine ⟨by omega, ?_⟩
  by_cases hn : n + 1 < m
  · exact h4.lt hn
  · omega
/-- each twig has a tree. -/
theorem For.sub {l : List Tw} {lo hi a : Int} {n e : Nat} {rs : List Nat} (h : For l lo hi a n e rs) : ∀ i, n ≤ i → i < e → ∃ m ks, Sub l i m ks ∧ m ≤ e := by
  induction h with
  | nil => intro i h1 h2; omega
  | @cons lo hi a n m e ks rs h0 hk hlo hhi ha h3 h5 h4 h1 h2 =>
    intro i hi1 hi2
    have g3 := h3.le
    have g4 := h4.le
    by_cases hin : i = n
    · subst hin
      exact ⟨m, ks, ⟨h0, hk, h5, h3⟩, g4⟩
    by_cases him : i < m
    · obtain ⟨m', ks', g, g'⟩ := h1 i (by omega) him
      exact ⟨m', ks', g, by omega⟩
    · exact h2 i (by omega) hi2
theorem For.root {l : List Tw} {lo hi a : Int} {n e : Nat} {rs : List Nat} (h : For l lo hi a n e rs) : ∀ r ∈ rs, n ≤ r ∧ r < e := by
  induction h with
  | nil => intro r hr; simp at hr
  | @cons lo hi a n m e ks rs h0 hk hlo hhi ha h3 h5 h4 h1 h2 =>
    intro r hr
    have g3 := h3.le
    have g4 := h4.le
    rcases List.mem_cons.1 hr with rfl | hr
    · omega
    · have := h2 r hr; omega

/-! ## the loop of after -/
def sm (l : List Tw) (a : Nat) : Nat → Int
  | 0 => 0
  | i + 1 => sm l a i + ((atT l (a + i)).kids - 1)
theorem sm_add (l : List Tw) (a i : Nat) : ∀ j, sm l a (i + j) = sm l a i + sm l (a + i) j
  | 0 => by simp [sm]
  | j + 1 => by rw [← Nat.add_assoc]; simp only [sm]; rw [sm_add l a i j]; rw [show a + (i + j) = a + i + j from by omega]; omega
theorem For.sum {l : List Tw} {lo hi a : Int} {n e : Nat} {rs : List Nat} (h : For l lo hi a n e rs) : sm l n (e - n) = - (rs.length : Int) ∧ ∀ i, i < e - n → 0 < (rs.length : Int) + sm l n i := by
  induction h with
  | nil => simp [sm]
  | @cons lo hi a n m e ks rs h0 hk hlo hhi ha h3 h5 h4 h1 h2 =>
    have g3 := h3.le
    have g4 := h4.le
    obtain ⟨a1, a2⟩ := h1
    obtain ⟨b1, b2⟩ := h2
    have key : ∀ j, sm l n (1 + j) = (atT l n).kids - 1 + sm l (n + 1) j := fun j => by
      rw [sm_add]; simp [sm]
    have key2 : ∀ j, sm l n (m - n + j) = - 1 + sm l m j := fun j => by
      rw [sm_add, show n + (m - n) = m from by omega, show m - n = 1 + (m - (n + 1)) from by omega, key, a1]
      omega
    refine ⟨?_, fun i hi => ?_⟩
    · rw [show e - n = m - n + (e - m) from by omega, key2, b1]
      simp
      omega
    · simp only [List.length_cons]
      by_cases hi0 : i = 0
      · subst hi0; simp [sm] <;> omega
      by_cases him : i < m - n
      · obtain ⟨j, rfl⟩ : ∃ j, i = 1 + j := ⟨i - 1, by omega⟩
        have := a2 j (by omega)
        rw [key]
        omega
      · obtain ⟨j, rfl⟩ : ∃ j, i = m - n + j := ⟨i - (m - n), by omega⟩
        have := b2 j (by omega)
        rw [key2]
        omega
theorem Sub.sum {l : List Tw} {n m : Nat} {ks : List Nat} (h : Sub l n m ks) : 1 + sm l n (m - n) = 0 ∧ ∀ i, i < m - n → 0 < 1 + sm l n i := by
  have hlt := h.lt
  obtain ⟨h1, h2, h3, h4⟩ := h
  have h5 : For l (atT l n).fr (atT l n).to (atT l n).fr n m [n] := .cons h1 h2 (by simp) (by simp) (by simp) h4 h3 .nil
  obtain ⟨g1, g2⟩ := h5.sum
  simp at g1 g2
  exact ⟨by omega, g2⟩

/-! ## the stack -/
structure Op where
  left : Int
  sf : Int
  st : Int
  to : Int
deriving DecidableEq
def takesB (o : Op) (t : Tw) : Bool := decide (okT t ∧ o.sf ≤ t.fr ∧ t.to ≤ o.st ∧ o.to ≤ t.fr)
/-- the stack, its top first. -/
def pops : List Op → List Op
  | [] => []
  | o :: S => if o.left = 0 then pops S else o :: S
def stepS (t : Tw) (S : List Op) : Option (List Op) :=
  match pops S with
  | [] => none
  | o :: S' => if takesB o t then some (⟨t.kids, t.fr, t.to, t.fr⟩ :: ⟨o.left - 1, o.sf, o.st, t.to⟩ :: S') else none
def runS : List Tw → List Op → Option (List Op)
  | [], S => some S
  | t :: r, S => (stepS t S).bind (runS r)
/-- all but the last are done. -/
def doneS : List Op → Bool
  | [] => true
  | o :: S => match S with
    | [] => true
    | _ :: _ => decide (o.left = 0) && doneS S
def accS (l : List Tw) (n : Nat) : List Op → Prop
  | [] => False
  | o :: S => match S with
    | [] => ∃ rs, For l o.sf o.st o.to n l.length rs
    | _ :: _ => ∃ m rs, For l o.sf o.st o.to n m rs ∧ (rs.length : Int) = o.left ∧ accS l m S
def botS : List Op → Int
  | [] => 0
  | o :: S => match S with
    | [] => o.left
    | _ :: _ => botS S
theorem For.nil_inv {l : List Tw} {lo hi a : Int} {n e : Nat} (h : For l lo hi a n e []) : n = e := by
  cases h; rfl
theorem For.end_inv {l : List Tw} {lo hi a : Int} {e : Nat} {rs : List Nat} (h : For l lo hi a l.length e rs) : rs = [] ∧ e = l.length := by
  cases h with
  | nil => exact ⟨rfl, rfl⟩
  | cons h0 => omega
theorem accS_skip {l : List Tw} {n : Nat} {o o2 : Op} {S : List Op} (h : o.left = 0) : accS l n (o :: o2 :: S) ↔ accS l n (o2 :: S) := by
  constructor
  · rintro ⟨m, rs, h1, h2, h3⟩
    have : rs = [] := List.eq_nil_of_length_eq_zero (by omega)
    subst this
    rw [h1.nil_inv]
    exact h3
  · intro h3
    exact ⟨n, [], .nil, by simp [h], h3⟩
theorem accS_pops {l : List Tw} {n : Nat} : ∀ S : List Op, 0 < botS S → (accS l n S ↔ accS l n (pops S)) ∧ botS (pops S) = botS S ∧ pops S ≠ []
  | [], h => by simp [botS] at h
  | [o], h => by
    have : o.left ≠ 0 := by simp [botS] at h; omega
    simp [pops, this]
  | o :: o2 :: S, h => by
    by_cases h0 : o.left = 0
    · obtain ⟨h1, h2, h3⟩ := accS_pops (l := l) (n := n) (o2 :: S) h
      rw [pops, if_pos h0]
      exact ⟨(accS_skip h0).trans h1, h2, h3⟩
    · rw [pops, if_neg h0]
      simp
theorem accS_step {l : List Tw} {n : Nat} {o : Op} {S : List Op} (hn : n < l.length) (h0 : S = [] ∨ o.left ≠ 0) : accS l n (o :: S) ↔ takesB o (atT l n) = true ∧ accS l (n + 1) (⟨(atT l n).kids, (atT l n).fr, (atT l n).to, (atT l n).fr⟩ :: ⟨o.left - 1, o.sf, o.st, (atT l n).to⟩ :: S) := by
  cases S with
  | nil =>
    constructor
    · rintro ⟨rs, h⟩
      generalize he : l.length = e at h
      cases h with
      | nil => omega
      | @cons _ _ _ _ m _ ks rs h0 hk hlo hhi ha h3 h5 h4 =>
        subst he
        exact ⟨by simp [takesB, hk, hlo, hhi, ha], m, ks, h3, h5, rs, h4⟩
    · rintro ⟨h1, m, ks, h3, h5, rs, h4⟩
      simp [takesB] at h1
      exact ⟨_, .cons hn h1.1 h1.2.1 h1.2.2.1 h1.2.2.2 h3 h5 h4⟩
  | cons o2 S =>
    have h0' : o.left ≠ 0 := by simpa using h0
    constructor
    · rintro ⟨e, rs, h, hl, hS⟩
      cases h with
      | nil => simp at hl; omega
      | @cons _ _ _ _ m _ ks rs h0 hk hlo hhi ha h3 h5 h4 =>
        exact ⟨by simp [takesB, hk, hlo, hhi, ha], m, ks, h3, h5, e, rs, h4, by simp at hl ⊢; omega, hS⟩
    · rintro ⟨h1, m, ks, h3, h5, e, rs, h4, hl, hS⟩
      simp [takesB] at h1
      exact ⟨e, _, .cons hn h1.1 h1.2.1 h1.2.2.1 h1.2.2.2 h3 h5 h4, by simp at hl ⊢; omega, hS⟩
theorem drop_at (l : List Tw) {n : Nat} (h : n < l.length) : l.drop n = atT l n :: l.drop (n + 1) := by
  rw [atT_get l h, List.drop_eq_getElem_cons h]
theorem run_acc (l : List Tw) : ∀ (k n : Nat) (S : List Op), n + k = l.length → S ≠ [] → (k : Int) ≤ botS S → ((∃ S', runS (l.drop n) S = some S' ∧ doneS S' = true) ↔ accS l n S)
  | 0, n, S, hn, hS, hb => by
    obtain rfl : n = l.length := by omega
    rw [List.drop_length]
    simp only [runS, Option.some.injEq, exists_eq_left']
    clear hb
    induction S with
    | nil => exact absurd rfl hS
    | cons o S ih =>
      cases S with
      | nil => simp only [doneS, accS, true_iff]; exact ⟨[], .nil⟩
      | cons o2 S =>
        rw [show doneS (o :: o2 :: S) = (decide (o.left = 0) && doneS (o2 :: S)) from rfl, Bool.and_eq_true, decide_eq_true_eq, ih (by simp)]
        constructor
        · rintro ⟨h1, h2⟩
          exact ⟨_, [], .nil, by simp [h1], h2⟩
        · rintro ⟨m, rs, h1, h2, h3⟩
          obtain ⟨rfl, rfl⟩ := h1.end_inv
          exact ⟨by simp at h2; omega, h3⟩
  | k + 1, n, S, hn, hS, hb => by
    have hlt : n < l.length := by omega
    obtain ⟨h1, h2, h3⟩ := accS_pops (l := l) (n := n) S (by omega)
    rw [drop_at l hlt, h1]
    simp only [runS, stepS]
    have hp : ∀ o S', pops S = o :: S' → S' = [] ∨ o.left ≠ 0 := fun o S' h => by
      right
      intro h0
      have : ∀ T : List Op, pops T = o :: S' → False := fun T => by
        induction T with
        | nil => simp [pops]
        | cons a T ih =>
          simp only [pops]
          split
          · exact ih
          · intro h; cases h; omega
      exact this S h
    cases hps : pops S with
    | nil => exact absurd hps h3
    | cons o S' =>
      have hb' : botS (o :: S') = botS S := by rw [← hps, h2]
      rw [accS_step hlt (hp o S' hps)]
      by_cases ht : takesB o (atT l n) = true
      · simp only [ht, if_true, Option.bind_some, true_and]
        refine run_acc l k (n + 1) _ (by omega) (by simp) ?_
        cases S' with
        | nil => simp only [botS] at hb' ⊢; omega
        | cons o2 S' => simp only [botS] at hb' ⊢; omega
      · simp [ht]
/-- a right forest. -/
def RightP (l : List Tw) : Prop := ∃ rs, For l 0 9223372036854775807 0 0 l.length rs
theorem right_run (l : List Tw) : (∃ S', runS l [⟨l.length, 0, 9223372036854775807, 0⟩] = some S' ∧ doneS S' = true) ↔ RightP l := by
  have := run_acc l l.length 0 [⟨l.length, 0, 9223372036854775807, 0⟩] (by simp) (by simp) (by simp [botS])
  rw [List.drop_zero] at this
  exact this
end Go.Proofs.YtadkjjpopmiceaaGreat
namespace Go.Proofs.YtadkjjpopmiceaaGreat

/-- how many twigs so many trees take. -/
def skn : List Tw → Nat → Option Nat
  | _, 0 => some 0
  | [], _ + 1 => none
  | t :: r, k + 1 => if t.kids < 0 then none else (skn r (t.kids.toNat + k)).map (· + 1)
theorem skn_zero (l : List Tw) : skn l 0 = some 0 := by cases l <;> rfl
theorem skn_le : ∀ (l : List Tw) (k i : Nat), skn l k = some i → i ≤ l.length
  | l, 0, i, h => by rw [skn_zero] at h; simp at h; omega
  | [], k + 1, i, h => by simp [skn] at h
  | t :: r, k + 1, i, h => by
    simp only [skn] at h
    split at h
    · cases h
    · simp only [Option.map_eq_some_iff] at h
      obtain ⟨j, hj, rfl⟩ := h
      have := skn_le r _ _ hj
      simp; omega
theorem skn_add : ∀ (l : List Tw) (a b : Nat), skn l (a + b) = (skn l a).bind fun i => (skn (l.drop i) b).map (i + ·)
  | l, 0, b => by simp [skn_zero]
  | [], a + 1, b => by
    rw [show a + 1 + b = (a + b) + 1 from by omega]
    simp [skn]
  | t :: r, a + 1, b => by
    rw [show a + 1 + b = (a + b) + 1 from by omega]
    simp only [skn]
    by_cases h : t.kids < 0
    · simp [h]
    · simp only [h, if_false]
      rw [show t.kids.toNat + (a + b) = (t.kids.toNat + a) + b from by omega, skn_add r (t.kids.toNat + a) b]
      cases skn r (t.kids.toNat + a) with
      | none => rfl
      | some i =>
        simp only [Option.bind_some, Option.map_some, List.drop_succ_cons]
        cases skn (r.drop i) b with
        | none => rfl
        | some j => simp; omega
/-- behind the tree at n. -/
def rAft (l : List Tw) (n : Nat) : Option Nat := (skn (l.drop n) 1).map (n + ·)
theorem rAft_eq (l : List Tw) {n : Nat} (h : n < l.length) (hk : ¬ (atT l n).kids < 0) : rAft l n = (skn (l.drop (n + 1)) (atT l n).kids.toNat).map (n + 1 + ·) := by
  unfold rAft
  rw [drop_at l h]
  simp only [skn, hk, if_false]
  cases skn (l.drop (n + 1)) ((atT l n).kids.toNat + 0) with
  | none => rfl
  | some i => simp; omega
theorem rAft_out (l : List Tw) {n : Nat} (h : l.length ≤ n) : rAft l n = none := by
  unfold rAft
  rw [List.drop_eq_nil_of_le h]
  rfl
theorem rAft_neg (l : List Tw) {n : Nat} (h : n < l.length) (hk : (atT l n).kids < 0) : rAft l n = none := by
  unfold rAft
  rw [drop_at l h]
  simp [skn, hk]
theorem rAft_lt (l : List Tw) {n m : Nat} (h : rAft l n = some m) : n < m ∧ m ≤ l.length ∧ n < l.length := by
  have hn : n < l.length := by
    apply Classical.byContradiction
    intro hn
    rw [rAft_out l (by omega)] at h
    cases h
  by_cases hk : (atT l n).kids < 0
  · rw [rAft_neg l hn hk] at h; cases h
  · rw [rAft_eq l hn hk] at h
    simp only [Option.map_eq_some_iff] at h
    obtain ⟨j, hj, rfl⟩ := h
    have := skn_le _ _ _ hj
    simp at this
    omega
/-- the loop of after. -/
theorem skn_next (l : List Tw) {n k i : Nat} (h : skn (l.drop n) k = some i) : skn (l.drop n) (k + 1) = (rAft l (n + i)).map (fun m => m - n) := by
  rw [skn_add, h]
  simp only [Option.bind_some, List.drop_drop, rAft]
  cases skn (l.drop (n + i)) 1 with
  | none => rfl
  | some j => simp; omega
theorem skn_none (l : List Tw) {n k j : Nat} (h : skn (l.drop n) k = none) (hk : k ≤ j) : skn (l.drop n) j = none := by
  obtain ⟨d, rfl⟩ : ∃ d, j = k + d := ⟨j - k, by omega⟩
  rw [skn_add, h]
  rfl
/-- where so many trees stand. -/
def rowL (l : List Tw) : Nat → Nat → Option (List Nat)
  | 0, _ => some []
  | k + 1, n => (rAft l n).bind fun m => (rowL l k m).map (n :: ·)
def rootsL (l : List Tw) : Nat → Nat → Option (List Nat)
  | 0, n => if n < l.length then none else some []
  | f + 1, n => if n < l.length then (rAft l n).bind fun m => (rootsL l f m).map (n :: ·) else some []
def apartB (l : List Tw) : List Nat → Bool
  | [] => true
  | a :: r => match r with
    | [] => true
    | b :: _ => decide ((atT l a).to ≤ (atT l b).fr) && apartB l r
def spanB (t : Tw) : Bool := decide (0 ≤ t.fr ∧ t.fr ≤ t.to)
def insB (s t : Tw) : Bool := decide (0 ≤ s.fr ∧ s.fr ≤ s.to ∧ 0 ≤ t.fr ∧ t.fr ≤ t.to ∧ t.fr ≤ s.fr ∧ s.to ≤ t.to)
def refOk (l : List Tw) (n : Nat) : Bool :=
  decide (0 ≤ (atT l n).rule ∧ 0 ≤ (atT l n).lev ∧ (atT l n).lev ≤ 99) && spanB (atT l n) && apartB l ((rowL l (atT l n).kids.toNat (n + 1)).getD []) && ((rowL l (atT l n).kids.toNat (n + 1)).getD []).all fun i => insB (atT l i) (atT l n)
def refRight (l : List Tw) : Bool :=
  match rootsL l l.length 0 with
  | none => false
  | some top => apartB l top && (List.range l.length).all (refOk l)
theorem rowL_len (l : List Tw) : ∀ (k n : Nat) (rs : List Nat), rowL l k n = some rs → rs.length = k
  | 0, n, rs, h => by simp [rowL] at h; subst h; rfl
  | k + 1, n, rs, h => by
    simp only [rowL, Option.bind_eq_some_iff, Option.map_eq_some_iff] at h
    obtain ⟨m, hm, r, hr, rfl⟩ := h
    simp [rowL_len l k m r hr]
/-- rows stand just if so many trees do. -/
theorem rowL_skn (l : List Tw) : ∀ (k n i : Nat), skn (l.drop n) k = some i → ∃ rs, rowL l k n = some rs
  | 0, n, i, h => ⟨[], rfl⟩
  | k + 1, n, i, h => by
    rw [show k + 1 = 1 + k from by omega, skn_add] at h
    simp only [Option.bind_eq_some_iff, Option.map_eq_some_iff, List.drop_drop] at h
    obtain ⟨a, ha, b, hb, rfl⟩ := h
    obtain ⟨rs, hrs⟩ := rowL_skn l k (n + a) b hb
    exact ⟨n :: rs, by simp [rowL, rAft, ha, hrs]⟩
theorem skn_rowL (l : List Tw) : ∀ (k n : Nat) (rs : List Nat), rowL l k n = some rs → ∃ i, skn (l.drop n) k = some i
  | 0, n, rs, h => ⟨0, skn_zero _⟩
  | k + 1, n, rs, h => by
    simp only [rowL, Option.bind_eq_some_iff, Option.map_eq_some_iff] at h
    obtain ⟨m, hm, r, hr, rfl⟩ := h
    obtain ⟨j, hj⟩ := skn_rowL l k m r hr
    rw [show k + 1 = 1 + k from by omega, skn_add]
    simp only [rAft, Option.map_eq_some_iff] at hm
    obtain ⟨a, ha, rfl⟩ := hm
    simp [ha, List.drop_drop, hj]
theorem For.skn {l : List Tw} {lo hi a : Int} {n e : Nat} {rs : List Nat} (h : For l lo hi a n e rs) : skn (l.drop n) rs.length = some (e - n) := by
  induction h with
  | nil => simp [skn_zero]
  | @cons lo hi a n m e ks rs h0 hk hlo hhi ha h3 h5 h4 h1 h2 =>
    have g3 := h3.le
    have g4 := h4.le
    have hneg : ¬ (atT l n).kids < 0 := by omega
    rw [drop_at l h0]
    simp only [List.length_cons, YtadkjjpopmiceaaGreat.skn, hneg, if_false]
    rw [show (atT l n).kids.toNat = ks.length from by omega, skn_add, h1]
    simp only [Option.bind_some, List.drop_drop]
    rw [show n + 1 + (m - (n + 1)) = m from by omega, h2]
    simp
    omega
theorem Sub.aft {l : List Tw} {n m : Nat} {ks : List Nat} (h : Sub l n m ks) : rAft l n = some m := by
  have hlt := h.lt
  obtain ⟨h1, h2, h3, h4⟩ := h
  rw [rAft_eq l h1 (by have := h2; unfold okT at this; omega), show (atT l n).kids.toNat = ks.length from by omega, h4.skn]
  simp
  omega
theorem For.rowL {l : List Tw} {lo hi a : Int} {n e : Nat} {rs : List Nat} (h : For l lo hi a n e rs) : rowL l rs.length n = some rs := by
  induction h with
  | nil => rfl
  | @cons lo hi a n m e ks rs h0 hk hlo hhi ha h3 h5 h4 h1 h2 =>
    have : rAft l n = some m := Sub.aft ⟨h0, hk, h5, h3⟩
    simp [YtadkjjpopmiceaaGreat.rowL, this, h2]
theorem For.rootsL {l : List Tw} {lo hi a : Int} {n e : Nat} {rs : List Nat} (h : For l lo hi a n e rs) : e = l.length → ∀ f, rs.length ≤ f → rootsL l f n = some rs := by
  induction h with
  | @nil lo hi a n => intro he f hf; cases f <;> simp [YtadkjjpopmiceaaGreat.rootsL, he]
  | @cons lo hi a n m e ks rs h0 hk hlo hhi ha h3 h5 h4 h1 h2 =>
    intro he f hf
    have : rAft l n = some m := Sub.aft ⟨h0, hk, h5, h3⟩
    cases f with
    | zero => simp at hf
    | succ f => simp [YtadkjjpopmiceaaGreat.rootsL, this, h0, h2 he f (by simpa using hf)]
theorem For.len_le {l : List Tw} {lo hi a : Int} {n e : Nat} {rs : List Nat} (h : For l lo hi a n e rs) : rs.length ≤ e - n := by
  induction h with
  | nil => simp
  | @cons lo hi a n m e ks rs h0 hk hlo hhi ha h3 h5 h4 h1 h2 =>
    have g3 := h3.le
    have g4 := h4.le
    simp; omega
theorem For.ends {l : List Tw} {lo hi a : Int} {n e : Nat} {rs : List Nat} (h : For l lo hi a n e rs) : (∀ r ∈ rs, lo ≤ (atT l r).fr ∧ (atT l r).to ≤ hi ∧ okT (atT l r)) ∧ apartB l rs = true ∧ (∀ r, rs.head? = some r → a ≤ (atT l r).fr) := by
  induction h with
  | nil => simp [apartB]
  | @cons lo hi a n m e ks rs h0 hk hlo hhi ha h3 h5 h4 h1 h2 =>
    obtain ⟨g1, g2, g3⟩ := h2
    refine ⟨fun r hr => ?_, ?_, fun r hr => by simp at hr; subst hr; exact ha⟩
    · rcases List.mem_cons.1 hr with rfl | hr
      · exact ⟨hlo, hhi, hk⟩
      · exact g1 r hr
    · cases rs with
      | nil => rfl
      | cons b rs => simp only [apartB, Bool.and_eq_true, decide_eq_true_eq]; exact ⟨g3 b rfl, g2⟩
theorem ref_of_right {l : List Tw} (h : RightP l) : refRight l = true := by
  obtain ⟨rs, h⟩ := h
  have hr := h.rootsL rfl l.length (by have := h.len_le; omega)
  unfold refRight
  rw [hr]
  simp only [h.ends.2.1, Bool.true_and, List.all_eq_true, List.mem_range]
  intro n hn
  obtain ⟨m, ks, hs, -⟩ := h.sub n (Nat.zero_le _) hn
  obtain ⟨h1, h2, h3, h4⟩ := hs
  obtain ⟨e1, e2, -⟩ := h4.ends
  unfold refOk
  rw [show (atT l n).kids.toNat = ks.length from by omega, h4.rowL]
  unfold okT at h2
  simp only [Option.getD_some, e2, Bool.and_true, Bool.and_eq_true, decide_eq_true_eq, List.all_eq_true]
  refine ⟨⟨by omega, by simp [spanB]; omega⟩, fun i hi => ?_⟩
  obtain ⟨f1, f2, f3⟩ := e1 i hi
  unfold okT at f3
  simp [insB]
  omega
theorem for_of_ref {l : List Tw} (hok : ∀ n, n < l.length → refOk l n = true) : ∀ (d n k i : Nat), skn (l.drop n) k = some i → i ≤ d → ∀ (lo hi a : Int) (rs : List Nat), rowL l k n = some rs →
    (∀ r ∈ rs, lo ≤ (atT l r).fr ∧ (atT l r).to ≤ hi) → apartB l rs = true → (∀ r, rs.head? = some r → a ≤ (atT l r).fr) → For l lo hi a n (n + i) rs := by
  intro d
  induction d with
  | zero =>
    intro n k i h hi lo hi' a rs hr _ _ _
    cases k with
    | zero =>
      rw [skn_zero] at h
      simp at h
      subst h
      simp [rowL] at hr
      subst hr
      exact .nil
    | succ k =>
      simp only [rowL, Option.bind_eq_some_iff, Option.map_eq_some_iff] at hr
      obtain ⟨m, hm, -⟩ := hr
      obtain ⟨h1, h2, h3⟩ := rAft_lt l hm
      rw [drop_at l h3] at h
      simp only [skn] at h
      split at h
      · cases h
      · simp only [Option.map_eq_some_iff] at h
        obtain ⟨j, -, rfl⟩ := h
        omega
  | succ d ih =>
    intro n k i h hi lo hi' a rs hr hin hap hhd
    cases k with
    | zero =>
      rw [skn_zero] at h
      simp at h
      subst h
      simp [rowL] at hr
      subst hr
      exact .nil
    | succ k =>
      simp only [rowL, Option.bind_eq_some_iff, Option.map_eq_some_iff] at hr
      obtain ⟨m, hm, rs, hr, rfl⟩ := hr
      obtain ⟨h1, h2, h3⟩ := rAft_lt l hm
      rw [drop_at l h3] at h
      simp only [skn] at h
      split at h
      · cases h
      · rename_i hk
        simp only [Option.map_eq_some_iff] at h
        obtain ⟨i, h, rfl⟩ := h
        rw [skn_add] at h
        simp only [Option.bind_eq_some_iff, Option.map_eq_some_iff, List.drop_drop] at h
        obtain ⟨j, hj, p, hp, rfl⟩ := h
        have hm2 : m = n + 1 + j := by
          rw [rAft_eq l h3 hk, hj] at hm
          simp at hm
          omega
        subst hm2
        obtain ⟨ks, hks⟩ := rowL_skn l _ _ _ hj
        have ho := hok n h3
        unfold refOk at ho
        rw [hks] at ho
        simp only [Option.getD_some, Bool.and_eq_true, decide_eq_true_eq, List.all_eq_true] at ho
        obtain ⟨⟨⟨o1, o2⟩, o3⟩, o4⟩ := ho
        simp [spanB] at o2
        obtain ⟨q1, q2⟩ := hin n (by simp)
        have hins : ∀ r ∈ ks, (atT l n).fr ≤ (atT l r).fr ∧ (atT l r).to ≤ (atT l n).to := fun r hr => by
          have := o4 r hr
          simp [insB] at this
          omega
        have hF := ih (n + 1) _ j hj (by omega) (atT l n).fr (atT l n).to (atT l n).fr ks hks hins o3 (fun r hr => (hins r (List.mem_of_mem_head? hr)).1)
        have hap2 : apartB l rs = true := by
          cases rs with
          | nil => rfl
          | cons b rs => simp only [apartB, Bool.and_eq_true] at hap; exact hap.2
        have hhd2 : ∀ r, rs.head? = some r → (atT l n).to ≤ (atT l r).fr := fun r hr => by
          cases rs with
          | nil => simp at hr
          | cons b rs =>
            simp only [apartB, Bool.and_eq_true, decide_eq_true_eq] at hap
            simp at hr
            subst hr
            exact hap.1
        have hR := ih (n + 1 + j) k p hp (by omega) lo hi' (atT l n).to rs hr (fun r hr => hin r (by simp [hr])) hap2 hhd2
        have := For.cons h3 (by unfold okT; omega) q1 q2 (hhd n rfl) hF (by rw [rowL_len l _ _ _ hks]; omega) hR
        rw [show n + (j + p + 1) = n + 1 + j + p from by omega]
        exact this
theorem rootsL_row (l : List Tw) : ∀ (f n : Nat) (rs : List Nat), n ≤ l.length → rootsL l f n = some rs → rowL l rs.length n = some rs ∧ skn (l.drop n) rs.length = some (l.length - n)
  | 0, n, rs, hn, h => by
    simp only [rootsL] at h
    split at h
    · cases h
    · simp at h
      subst h
      simp [rowL, skn_zero]
      omega
  | f + 1, n, rs, hn, h => by
    simp only [rootsL] at h
    split at h
    · simp only [Option.bind_eq_some_iff, Option.map_eq_some_iff] at h
      obtain ⟨m, hm, rs, hr, rfl⟩ := h
      have hlt := rAft_lt l hm
      obtain ⟨h1, h2⟩ := rootsL_row l f m rs hlt.2.1 hr
      refine ⟨by simp [rowL, hm, h1], ?_⟩
      simp only [rAft, Option.map_eq_some_iff] at hm
      obtain ⟨a, ha, rfl⟩ := hm
      rw [List.length_cons, show rs.length + 1 = 1 + rs.length from by omega, skn_add, ha]
      simp [List.drop_drop, h2]
      omega
    · simp at h
      subst h
      simp [rowL, skn_zero]
      omega
theorem right_of_ref {l : List Tw} (hw : ∀ n, n < l.length → (atT l n).to ≤ 9223372036854775807) (h : refRight l = true) : RightP l := by
  unfold refRight at h
  split at h
  · cases h
  · rename_i top htop
    simp only [Bool.and_eq_true, List.all_eq_true, List.mem_range] at h
    obtain ⟨h1, h2⟩ := rootsL_row l l.length 0 top (Nat.zero_le _) htop
    have hr : ∀ r ∈ top, r < l.length := by
      have : ∀ (k n : Nat) (rs : List Nat), rowL l k n = some rs → ∀ r ∈ rs, r < l.length := fun k => by
        induction k with
        | zero => intro n rs hrs r hr; simp [rowL] at hrs; subst hrs; simp at hr
        | succ k ih =>
          intro n rs hrs r hr
          simp only [rowL, Option.bind_eq_some_iff, Option.map_eq_some_iff] at hrs
          obtain ⟨m, hm, q, hq, rfl⟩ := hrs
          rcases List.mem_cons.1 hr with rfl | hr
          · exact (rAft_lt l hm).2.2
          · exact ih m q hq r hr
      exact this _ _ _ h1
    have hs : ∀ r ∈ top, 0 ≤ (atT l r).fr := fun r hrm => by
      have := h.2 r (hr r hrm)
      unfold refOk at this
      simp [spanB] at this
      omega
    have := for_of_ref h.2 l.length 0 top.length l.length (by simpa using h2) (Nat.le_refl _) 0 9223372036854775807 0 top h1 (fun r hrm => ⟨hs r hrm, hw r (hr r hrm)⟩) h.1 (fun r hrm => hs r (List.mem_of_mem_head? hrm))
    rw [Nat.zero_add] at this
    exact ⟨top, this⟩
end Go.Proofs.YtadkjjpopmiceaaGreat
namespace Go.Proofs.YtadkjjpopmiceaaGreat

/-- behind n's tree. -/
def aN (l : List Tw) (n : Nat) : Nat := (rAft l n).getD 0
theorem Sub.aN {l : List Tw} {n m : Nat} {ks : List Nat} (h : Sub l n m ks) : aN l n = m := by simp [YtadkjjpopmiceaaGreat.aN, h.aft]
theorem For.aN_le {l : List Tw} {lo hi a : Int} {n e : Nat} {rs : List Nat} (h : For l lo hi a n e rs) {p : Nat} (h1 : n ≤ p) (h2 : p < e) : aN l p ≤ e ∧ p < aN l p := by
  obtain ⟨m, ks, hs, hm⟩ := h.sub p h1 h2
  rw [hs.aN]
  exact ⟨hm, hs.lt.1⟩
/-- ahead of a root all trees have ended. -/
theorem For.before {l : List Tw} {lo hi a : Int} {n e : Nat} {rs : List Nat} (h : For l lo hi a n e rs) : ∀ r ∈ rs, ∀ p, n ≤ p → p < r → aN l p ≤ r := by
  induction h with
  | nil => intro r hr; simp at hr
  | @cons lo hi a n m e ks rs h0 hk hlo hhi ha h3 h5 h4 h1 h2 =>
    intro r hr p hp1 hp2
    have g3 := h3.le
    rcases List.mem_cons.1 hr with rfl | hr
    · omega
    have hmr := h4.root r hr
    by_cases hpm : m ≤ p
    · exact h2 r hr p hpm hp2
    by_cases hpn : p = n
    · subst hpn
      rw [Sub.aN (⟨h0, hk, h5, h3⟩ : Sub l p m ks)]
      omega
    · have := h3.aN_le (p := p) (by omega) (by omega)
      omega
/-- a twig is a root, or a kid. -/
theorem For.par {l : List Tw} {lo hi a : Int} {n e : Nat} {rs : List Nat} (h : For l lo hi a n e rs) : ∀ i, n ≤ i → i < e → i ∈ rs ∨ ∃ p m ks, n ≤ p ∧ p < i ∧ i < m ∧ m ≤ e ∧ Sub l p m ks ∧ i ∈ ks ∧ ∀ q, p < q → q < i → aN l q ≤ i := by
  induction h with
  | nil => intro i h1 h2; omega
  | @cons lo hi a n m e ks rs h0 hk hlo hhi ha h3 h5 h4 h1 h2 =>
    intro i hi1 hi2
    have g3 := h3.le
    have g4 := h4.le
    by_cases hin : i = n
    · left; simp [hin]
    by_cases him : i < m
    · right
      rcases h1 i (by omega) him with h | ⟨p, m', ks', a1, a2, a3, a4, a5, a6, a7⟩
      · exact ⟨n, m, ks, Nat.le_refl _, by omega, him, g4, ⟨h0, hk, h5, h3⟩, h, fun q q1 q2 => h3.before i h q (by omega) q2⟩
      · exact ⟨p, m', ks', by omega, a2, a3, by omega, a5, a6, a7⟩
    · rcases h2 i (by omega) hi2 with h | ⟨p, m', ks', a1, a2, a3, a4, a5, a6, a7⟩
      · left; simp [h]
      · right; exact ⟨p, m', ks', by omega, a2, a3, a4, a5, a6, a7⟩
/-- whose kid. -/
def Par (l : List Tw) (i p : Nat) : Prop := p < i ∧ ∃ m ks, Sub l p m ks ∧ i ∈ ks
theorem Par.in {l : List Tw} {i p : Nat} (h : Par l i p) : i < aN l p := by
  obtain ⟨h1, m, ks, hs, hi⟩ := h
  rw [hs.aN]
  exact (hs.2.2.2.root i hi).2
theorem Par.above {l : List Tw} {i p : Nat} (h : Par l i p) : ∀ q, p < q → q < i → aN l q ≤ i := by
  obtain ⟨h1, m, ks, hs, hi⟩ := h
  intro q h2 h3
  exact hs.2.2.2.before i hi q (by omega) h3
theorem Par.uniq {l : List Tw} {i p q : Nat} (h : Par l i p) (h' : Par l i q) : p = q := by
  rcases Nat.lt_trichotomy p q with hl | hl | hl
  · have := h.above q hl h'.1
    have := h'.in
    omega
  · exact hl
  · have := h'.above p hl h.1
    have := h.in
    omega
theorem Sub.kids_uniq {l : List Tw} {n m m' : Nat} {ks ks' : List Nat} (h : Sub l n m ks) (h' : Sub l n m' ks') : m = m' ∧ ks = ks' := by
  have h1 := h.aN
  have h2 := h'.aN
  have e1 := h.2.2.2.rowL
  have e2 := h'.2.2.2.rowL
  have : ks.length = ks'.length := by have := h.2.2.1; have := h'.2.2.1; omega
  rw [this, e2] at e1
  simp at e1
  exact ⟨by omega, e1.symm⟩
/-- in a right forest: the parent is the greatest one ahead that has not ended. -/
theorem right_par {l : List Tw} (h : RightP l) {i : Nat} (hi : i < l.length) : (∃ p, Par l i p ∧ i < aN l p ∧ ∀ q, p < q → q < i → aN l q ≤ i) ∨ ((∀ p, ¬ Par l i p) ∧ ∀ q, q < i → aN l q ≤ i) := by
  obtain ⟨rs, h⟩ := h
  rcases h.par i (Nat.zero_le _) hi with h1 | ⟨p, m, ks, -, h2, h3, -, h4, h5, h6⟩
  · right
    have hb := h.before i h1
    refine ⟨fun p hp => ?_, fun q hq => hb q (Nat.zero_le _) hq⟩
    have := hp.in
    have := hb p (Nat.zero_le _) hp.1
    omega
  · left
    exact ⟨p, ⟨h2, m, ks, h4, h5⟩, by rw [h4.aN]; exact h3, h6⟩

/-! ## heights -/
/-- how many from s on have i in their trees. -/
def dep (l : List Tw) (s i : Nat) : Nat := ((List.range' s (i + 1 - s)).filter fun p => decide (i < aN l p)).length
def mxd (l : List Tw) (s : Nat) : Nat → Nat
  | 0 => 0
  | k + 1 => max (mxd l s k) (dep l s (s + k))
theorem mxd_le (l : List Tw) (s : Nat) : ∀ (k d : Nat), mxd l s k ≤ d ↔ ∀ i, s ≤ i → i < s + k → dep l s i ≤ d
  | 0, d => by simp [mxd]; intro i h1 h2; omega
  | k + 1, d => by
    simp only [mxd, Nat.max_le]
    rw [mxd_le l s k d]
    constructor
    · rintro ⟨h1, h2⟩ i hi1 hi2
      by_cases he : i = s + k
      · subst he; exact h2
      · exact h1 i hi1 (by omega)
    · intro h
      exact ⟨fun i h1 h2 => h i h1 (by omega), h _ (by omega) (by omega)⟩
theorem dep_cons {l : List Tw} {s i : Nat} (h : s ≤ i) : dep l s i = (if i < aN l s then 1 else 0) + dep l (s + 1) i := by
  unfold dep
  rw [show i + 1 - s = (i + 1 - (s + 1)) + 1 from by omega, List.range'_succ, List.filter_cons]
  by_cases hc : i < aN l s <;> simp [hc]
  omega
theorem dep_gap {l : List Tw} {i m : Nat} : ∀ (k s : Nat), m = s + k → m ≤ i + 1 → (∀ p, s ≤ p → p < m → aN l p ≤ i) → dep l s i = dep l m i
  | 0, s, hm, _, _ => by rw [hm, Nat.add_zero]
  | k + 1, s, hm, hi, h => by
    rw [dep_cons (by omega), if_neg (by have := h s (Nat.le_refl _) (by omega); omega), Nat.zero_add]
    exact dep_gap k (s + 1) (by omega) hi (fun p h1 h2 => h p (by omega) h2)
theorem dep_self {l : List Tw} {i : Nat} : dep l (i + 1) i = 0 := by simp [dep]
/-- the height of a forest, by its roots. -/
theorem For.mx {l : List Tw} {lo hi a : Int} {n e : Nat} {rs : List Nat} (h : For l lo hi a n e rs) : ∀ d, mxd l n (e - n) ≤ d ↔ ∀ r ∈ rs, 1 + mxd l (r + 1) (aN l r - (r + 1)) ≤ d := by
  induction h with
  | nil => intro d; simp [mxd]
  | @cons lo hi a n m e ks rs h0 hk hlo hhi ha h3 h5 h4 h1 h2 =>
    intro d
    have g3 := h3.le
    have g4 := h4.le
    have hA : aN l n = m := Sub.aN (⟨h0, hk, h5, h3⟩ : Sub l n m ks)
    rw [mxd_le]
    simp only [List.mem_cons, forall_eq_or_imp]
    rw [← h2 d, hA, mxd_le]
    have e1 : ∀ i, n < i → i < m → dep l n i = 1 + dep l (n + 1) i := fun i i1 i2 => by
      rw [dep_cons (by omega), if_pos (by omega)]
    have e2 : ∀ i, m ≤ i → dep l n i = dep l m i := fun i i1 => dep_gap (m - n) n (by omega) (by omega) (fun p p1 p2 => by
      by_cases hpn : p = n
      · subst hpn; omega
      · have := h3.aN_le (p := p) (by omega) p2; omega)
    have e3 : dep l n n = 1 := by rw [dep_cons (Nat.le_refl _), if_pos (by omega), dep_self]
    constructor
    · intro h
      refine ⟨?_, fun i i1 i2 => by rw [← e2 i i1]; exact h i (by omega) (by omega)⟩
      have hd : 1 ≤ d := by have := h n (Nat.le_refl _) (by omega); omega
      have : mxd l (n + 1) (m - (n + 1)) ≤ d - 1 := (mxd_le l _ _ _).2 fun i i1 i2 => by
        have := h i (by omega) (by omega)
        rw [e1 i (by omega) (by omega)] at this
        omega
      omega
    · rintro ⟨b1, b2⟩ i i1 i2
      by_cases hin : i = n
      · subst hin; omega
      by_cases him : i < m
      · rw [e1 i (by omega) him]
        have := (mxd_le l (n + 1) (m - (n + 1)) (d - 1)).1 (by omega) i (by omega) (by omega)
        omega
      · rw [e2 i (by omega)]
        exact b2 i (by omega) (by omega)

/-! ## paths -/
def hasB (t : Tw) (p : Int) : Bool := decide (t.fr ≤ p ∧ p < t.to)
theorem For.spans {l : List Tw} {lo hi a : Int} {n e : Nat} {rs : List Nat} (h : For l lo hi a n e rs) : ∀ i, n ≤ i → i < e → a ≤ (atT l i).fr ∧ lo ≤ (atT l i).fr ∧ (atT l i).to ≤ hi := by
  induction h with
  | nil => intro i h1 h2; omega
  | @cons lo hi a n m e ks rs h0 hk hlo hhi ha h3 h5 h4 h1 h2 =>
    intro i hi1 hi2
    unfold okT at hk
    by_cases hin : i = n
    · subst hin; exact ⟨ha, hlo, hhi⟩
    by_cases him : i < m
    · obtain ⟨b1, b2, b3⟩ := h1 i (by omega) him
      omega
    · obtain ⟨b1, b2, b3⟩ := h2 i (by omega) hi2
      omega
/-- the twigs of a place from n to e. -/
def onP (l : List Tw) (pl : Int) (n e : Nat) : List Nat := (List.range' n (e - n)).filter fun i => hasB (atT l i) pl
theorem onP_nil {l : List Tw} {pl : Int} {n e : Nat} (h : ∀ i, n ≤ i → i < e → hasB (atT l i) pl = false) : onP l pl n e = [] := by
  unfold onP
  rw [List.filter_eq_nil_iff]
  intro i hi
  rw [List.mem_range'_1] at hi
  simp [h i hi.1 (by omega)]
theorem onP_split {l : List Tw} {pl : Int} {n m e : Nat} (h1 : n ≤ m) (h2 : m ≤ e) : onP l pl n e = onP l pl n m ++ onP l pl m e := by
  unfold onP
  rw [← List.filter_append]
  congr 1
  rw [show e - n = (m - n) + (e - m) from by omega, ← List.range'_append, Nat.one_mul, show n + (m - n) = m from by omega]
theorem onP_cons {l : List Tw} {pl : Int} {n e : Nat} (h : n < e) : onP l pl n e = (if hasB (atT l n) pl then [n] else []) ++ onP l pl (n + 1) e := by
  rw [onP_split (m := n + 1) (by omega) (by omega)]
  congr 1
  unfold onP
  rw [show n + 1 - n = 1 from by omega]
  simp [List.range'_succ, List.filter_cons]
theorem For.path {l : List Tw} {lo hi a : Int} {n e : Nat} {rs : List Nat} (h : For l lo hi a n e rs) (pl : Int) :
    onP l pl n e = match rs.find? (fun r => hasB (atT l r) pl) with
      | none => []
      | some r => r :: onP l pl (r + 1) (aN l r) := by
  induction h with
  | nil => simp [onP]
  | @cons lo hi a n m e ks rs h0 hk hlo hhi ha h3 h5 h4 h1 h2 =>
    have g3 := h3.le
    have g4 := h4.le
    have hA : aN l n = m := Sub.aN (⟨h0, hk, h5, h3⟩ : Sub l n m ks)
    rw [onP_split (m := m) (by omega) g4, onP_cons (n := n) (e := m) (by omega), List.find?_cons]
    by_cases hh : hasB (atT l n) pl = true
    · simp only [hh, if_true, hA]
      rw [onP_nil (n := m) (e := e) (fun i i1 i2 => by
        have := h4.spans i i1 i2
        simp [hasB] at hh ⊢
        omega)]
      simp
    · have hf : hasB (atT l n) pl = false := by simpa using hh
      simp only [hf]
      rw [onP_nil (n := n + 1) (e := m) (fun i i1 i2 => by
        have := h3.spans i i1 i2
        simp [hasB] at hf ⊢
        omega), h2]
      simp
/-- those on a path have each other in their trees. -/
theorem For.path_dep {l : List Tw} {lo hi a : Int} {n e : Nat} {rs : List Nat} (h : For l lo hi a n e rs) (pl : Int) : (onP l pl n e).length ≤ mxd l n (e - n) := by
  induction h with
  | nil => simp [onP]
  | @cons lo hi a n m e ks rs h0 hk hlo hhi ha h3 h5 h4 h1 h2 =>
    have hF : For l lo hi a n e (n :: rs) := .cons h0 hk hlo hhi ha h3 h5 h4
    have hA : aN l n = m := Sub.aN (⟨h0, hk, h5, h3⟩ : Sub l n m ks)
    have hm := (hF.mx _).1 (Nat.le_refl _)
    have hm2 : mxd l m (e - m) ≤ mxd l n (e - n) := (h4.mx _).2 fun r hr => hm r (by simp [hr])
    have hm1 := hm n (by simp)
    rw [hA] at hm1
    rw [hF.path pl, List.find?_cons]
    by_cases hh : hasB (atT l n) pl = true
    · simp only [hh, hA, List.length_cons]
      omega
    · have hf : hasB (atT l n) pl = false := by simpa using hh
      simp only [hf]
      rw [← h4.path pl]
      omega
end Go.Proofs.YtadkjjpopmiceaaGreat
