/-
  Spans, plainly: gaps from end to end, gaps by sorted spans: both are what is not covered.
-/
namespace Go.Proofs.Ytndminmefacmnaa

/-- a span. -/
structure Sg where
  fr : Int
  to : Int
deriving DecidableEq
def rightS (s : Sg) : Bool := decide (0 ≤ s.fr ∧ s.fr ≤ s.to)
def lenS (s : Sg) : Int := if rightS s then s.to - s.fr else 0
def hasS (s : Sg) (p : Int) : Bool := rightS s && decide (s.fr ≤ p ∧ p < s.to)
def inS (a b : Sg) : Bool := rightS a && rightS b && decide (b.fr ≤ a.fr ∧ a.to ≤ b.to)
/-- how two stand. -/
def cmpI (a b : Int) : Int := if a < b then -1 else if b < a then 1 else 0
def orI (a b : Int) : Int := if a ≠ 0 then a else b
def cmpS (a b : Sg) : Int := orI (cmpI a.fr b.fr) (cmpI b.to a.to)
/-- it stands ahead. -/
def ltS (a b : Sg) : Prop := a.fr < b.fr ∨ a.fr = b.fr ∧ b.to < a.to
instance (a b : Sg) : Decidable (ltS a b) := by unfold ltS; infer_instance
theorem cmpS_lt (a b : Sg) : cmpS a b < 0 ↔ ltS a b := by
  unfold cmpS orI cmpI ltS
  split <;> (repeat' split) <;> omega
def lessS (a b : Sg) : Bool := rightS a && rightS b && decide (a.fr < b.fr ∨ a.fr = b.fr ∧ a.to > b.to)
def meetM (a b : Sg) : Sg := ⟨max a.fr b.fr, min a.to b.to⟩
def meetIs (a b : Sg) : Bool := rightS a && rightS b && rightS (meetM a b)
def meetS (a b : Sg) : Sg := if meetIs a b then meetM a b else ⟨0, 0⟩

/-- a place is covered. -/
def cov (l : List Sg) (p : Int) : Bool := l.any fun s => hasS s p
/-- what is not covered, from a place on to an end, place by place: the run that is open began at b. -/
def canonN (l : List Sg) (hi : Int) : Nat → Int → List Sg
  | 0, _ => []
  | n + 1, at' => if hi ≤ at' then [] else if cov l at' then canonN l hi n (at' + 1) else
    ⟨at', endN l hi n (at' + 1)⟩ :: canonN l hi n (endN l hi n (at' + 1))
where
  endN (l : List Sg) (hi : Int) : Nat → Int → Int
    | 0, p => p
    | n + 1, p => if hi ≤ p then p else if cov l p then p else endN l hi n (p + 1)
/-- the end of an open run. -/
def endU (l : List Sg) (hi p : Int) : Int := canonN.endN l hi (hi - p).toNat p
theorem endN_le (l : List Sg) (hi : Int) : ∀ (n : Nat) (p : Int), p ≤ canonN.endN l hi n p := by
  intro n
  induction n with
  | zero => intro p; simp [canonN.endN]
  | succ n ih =>
    intro p
    unfold canonN.endN
    split
    · omega
    · split
      · omega
      · have := ih (p + 1); omega
theorem endN_hi (l : List Sg) (hi : Int) : ∀ (n : Nat) (p : Int), p ≤ hi → canonN.endN l hi n p ≤ hi := by
  intro n
  induction n with
  | zero => intro p h; simpa [canonN.endN] using h
  | succ n ih =>
    intro p h
    unfold canonN.endN
    split
    · omega
    · split
      · omega
      · exact ih (p + 1) (by omega)
theorem endN_fuel (l : List Sg) (hi : Int) : ∀ (n m : Nat) (p : Int), hi - p ≤ n → hi - p ≤ m → p ≤ hi → canonN.endN l hi n p = canonN.endN l hi m p := by
  intro n
  induction n with
  | zero =>
    intro m p hn hm hp
    obtain rfl : p = hi := by omega
    cases m with
    | zero => rfl
    | succ m => simp [canonN.endN]
  | succ n ih =>
    intro m p hn hm hp
    cases m with
    | zero =>
      obtain rfl : p = hi := by omega
      simp [canonN.endN]
    | succ m =>
      unfold canonN.endN
      split
      · rfl
      · split
        · rfl
        · exact ih m (p + 1) (by omega) (by omega) (by omega)
theorem canonN_fuel (l : List Sg) (hi : Int) : ∀ (n m : Nat) (p : Int), hi - p ≤ n → hi - p ≤ m → canonN l hi n p = canonN l hi m p := by
  intro n
  induction n with
  | zero =>
    intro m p hn hm
    cases m with
    | zero => rfl
    | succ m => unfold canonN; rw [if_pos (by omega)]
  | succ n ih =>
    intro m p hn hm
    cases m with
    | zero => unfold canonN; rw [if_pos (by omega)]
    | succ m =>
      unfold canonN
      split
      · rfl
      · rename_i h1
        split
        · exact ih m (p + 1) (by omega) (by omega)
        · have e : canonN.endN l hi n (p + 1) = canonN.endN l hi m (p + 1) := endN_fuel l hi n m (p + 1) (by omega) (by omega) (by omega)
          have h2 := endN_le l hi n (p + 1)
          rw [e] at h2 ⊢
          rw [ih m _ (by omega) (by omega)]
/-- what is not covered. -/
def canon (l : List Sg) (hi p : Int) : List Sg := canonN l hi (hi - p).toNat p
theorem canon_end {l : List Sg} {hi p : Int} (h : hi ≤ p) : canon l hi p = [] := by
  unfold canon
  rw [show (hi - p).toNat = 0 from by omega]
  rfl
theorem canon_cov {l : List Sg} {hi p : Int} (h : p < hi) (hc : cov l p = true) : canon l hi p = canon l hi (p + 1) := by
  unfold canon
  rw [show (hi - p).toNat = (hi - (p + 1)).toNat + 1 from by omega, canonN, if_neg (by omega), if_pos hc]
theorem canon_gap {l : List Sg} {hi p : Int} (h : p < hi) (hc : cov l p = false) : canon l hi p = ⟨p, endU l hi (p + 1)⟩ :: canon l hi (endU l hi (p + 1)) := by
  have e : endU l hi (p + 1) = canonN.endN l hi (hi - (p + 1)).toNat (p + 1) := rfl
  have h2 := endN_le l hi (hi - (p + 1)).toNat (p + 1)
  unfold canon
  rw [show (hi - p).toNat = (hi - (p + 1)).toNat + 1 from by omega, canonN, if_neg (by omega), if_neg (by simp [hc]), ← e]
  rw [← e] at h2
  rw [canonN_fuel l hi _ (hi - endU l hi (p + 1)).toNat _ (by omega) (by omega)]
theorem endU_at {l : List Sg} {hi p : Int} (h : cov l p = true ∨ hi ≤ p) : endU l hi p = p := by
  unfold endU
  cases hn : (hi - p).toNat with
  | zero => rfl
  | succ n =>
    unfold canonN.endN
    split
    · rfl
    · rw [if_pos (h.resolve_right (by omega))]
theorem endU_go {l : List Sg} {hi p : Int} (h : p < hi) (hc : cov l p = false) : endU l hi p = endU l hi (p + 1) := by
  unfold endU
  rw [show (hi - p).toNat = (hi - (p + 1)).toNat + 1 from by omega, canonN.endN, if_neg (by omega), if_neg (by simp [hc])]
/-- covered places are passed over. -/
theorem canon_jump {l : List Sg} {hi q : Int} : ∀ (n : Nat) (p : Int), q - p ≤ n → p ≤ q → (∀ x, p ≤ x → x < q → x < hi → cov l x = true) → canon l hi p = canon l hi q := by
  intro n
  induction n with
  | zero =>
    intro p h1 h2 _
    obtain rfl : p = q := by omega
    rfl
  | succ n ih =>
    intro p h1 h2 hc
    by_cases hpq : p = q
    · rw [hpq]
    · by_cases hp : p < hi
      · rw [canon_cov hp (hc p (by omega) (by omega) hp)]
        exact ih (p + 1) (by omega) (by omega) (fun x hx => hc x (by omega))
      · rw [canon_end (by omega), canon_end (by omega)]
theorem endU_jump {l : List Sg} {hi q : Int} (hq : q ≤ hi) (he : cov l q = true ∨ hi ≤ q) : ∀ (n : Nat) (p : Int), q - p ≤ n → p ≤ q → (∀ x, p ≤ x → x < q → cov l x = false) → endU l hi p = q := by
  intro n
  induction n with
  | zero =>
    intro p h1 h2 _
    obtain rfl : p = q := by omega
    exact endU_at he
  | succ n ih =>
    intro p h1 h2 hc
    by_cases hpq : p = q
    · rw [hpq]; exact endU_at he
    · rw [endU_go (by omega) (hc p (by omega) (by omega))]
      exact ih (p + 1) (by omega) (by omega) (fun x hx => hc x (by omega))
theorem cov_of {l : List Sg} {s : Sg} {p : Int} (h : s ∈ l) (hs : hasS s p = true) : cov l p = true := List.any_eq_true.2 ⟨s, h, hs⟩
theorem has_iff {s : Sg} {p : Int} : hasS s p = true ↔ 0 ≤ s.fr ∧ s.fr ≤ p ∧ p < s.to := by
  unfold hasS rightS
  simp only [Bool.and_eq_true, decide_eq_true_eq]
  omega
theorem cov_no {l : List Sg} {p : Int} (h : ∀ s ∈ l, hasS s p = false) : cov l p = false := by
  rw [Bool.eq_false_iff]
  intro hc
  obtain ⟨s, hs, h2⟩ := List.any_eq_true.1 hc
  rw [h s hs] at h2
  cases h2
/-- the gap that begins here. -/
theorem canon_one {l : List Sg} {hi p q : Int} (h : p < q) (hq : q ≤ hi) (he : cov l q = true ∨ hi ≤ q) (hc : ∀ x, p ≤ x → x < q → cov l x = false) : canon l hi p = ⟨p, q⟩ :: canon l hi q := by
  rw [canon_gap (by omega) (hc p (by omega) h), endU_jump hq he (q - p).toNat (p + 1) (by omega) (by omega) (fun x hx => hc x (by omega))]
/-- by sorted spans. -/
def sweep (hi : Int) : List Sg → Int → List Sg
  | [], _ => []
  | o :: r, p => (if o.fr > p then [⟨p, min o.fr hi⟩] else []) ++ (if max p o.to ≥ hi then [] else sweep hi r (max p o.to))
theorem cov_cons (o : Sg) (r : List Sg) (x : Int) : cov (o :: r) x = (hasS o x || cov r x) := rfl
theorem has_no {s : Sg} {p : Int} (h : p < s.fr ∨ s.to ≤ p) : hasS s p = false := by
  rw [Bool.eq_false_iff]
  intro h2
  have := has_iff.1 h2
  omega
theorem sweep_canon (L : List Sg) (hi : Int) : ∀ (l : List Sg) (p : Int), p < hi → 0 ≤ p → (∀ s ∈ l, 0 ≤ s.fr ∧ s.fr < s.to) → l.Pairwise (fun a b => a.fr ≤ b.fr) → (∀ x, p ≤ x → x < hi → cov L x = cov l x) → sweep hi (l ++ [⟨hi, hi⟩]) p = canon L hi p := by
  intro l
  induction l with
  | nil =>
    intro p hp _ _ _ hc
    simp only [List.nil_append, sweep]
    rw [if_pos (show hi > p from hp), if_pos (by omega), canon_one (q := hi) hp (Int.le_refl _) (.inr (Int.le_refl _)) (fun x h1 h2 => by rw [hc x h1 h2]; rfl), canon_end (Int.le_refl _), Int.min_self]
    rfl
  | cons o r ih =>
    intro p hp hp0 hr hs hc
    obtain ⟨ho0, ho1⟩ := hr o (by simp)
    have hr' : ∀ s ∈ r, 0 ≤ s.fr ∧ s.fr < s.to := fun s h => hr s (List.mem_cons_of_mem _ h)
    rw [List.pairwise_cons] at hs
    have hgo : ∀ q, q < hi → p ≤ q → o.to ≤ q → sweep hi (r ++ [⟨hi, hi⟩]) q = canon L hi q := fun q h1 h2 h3 => ih q h1 (by omega) hr' hs.2 (fun x hx hx2 => by rw [hc x (by omega) hx2, cov_cons, has_no (.inr (by omega)), Bool.false_or])
    have hco : ∀ x, o.fr ≤ x → x < o.to → p ≤ x → x < hi → cov L x = true := fun x h1 h2 h3 h4 => by rw [hc x h3 h4]; exact cov_of (List.mem_cons_self ..) (has_iff.2 ⟨ho0, h1, h2⟩)
    simp only [List.cons_append, sweep]
    by_cases hgt : o.fr > p
    · rw [if_pos hgt]
      have hmin : min o.fr hi = o.fr ∨ min o.fr hi = hi := by omega
      have hq : canon L hi p = ⟨p, min o.fr hi⟩ :: canon L hi (min o.fr hi) := by
        refine canon_one (by omega) (by omega) ?_ (fun x h1 h2 => ?_)
        · by_cases h : o.fr < hi
          · left
            rw [show min o.fr hi = o.fr from by omega]
            exact hco _ (Int.le_refl _) ho1 (by omega) h
          · right; omega
        · rw [hc x h1 (by omega)]
          refine cov_no (fun s hss => has_no (.inl ?_))
          rcases List.mem_cons.1 hss with rfl | hss
          · omega
          · have := hs.1 s hss; omega
      rw [hq, List.singleton_append]
      congr 1
      have hj : canon L hi (min o.fr hi) = canon L hi (max p o.to) := by
        by_cases h : o.fr < hi
        · rw [show min o.fr hi = o.fr from by omega, show max p o.to = o.to from by omega]
          exact canon_jump _ _ (Int.self_le_toNat _) (by omega) (fun x h1 h2 h3 => hco x h1 h2 (by omega) h3)
        · rw [canon_end (by omega), canon_end (by omega)]
      rw [hj]
      by_cases h2 : max p o.to ≥ hi
      · rw [if_pos h2, canon_end (by omega)]
      · rw [if_neg h2]; exact hgo _ (by omega) (by omega) (by omega)
    · rw [if_neg hgt, List.nil_append]
      have hj : canon L hi p = canon L hi (max p o.to) := canon_jump _ _ (Int.self_le_toNat _) (by omega) (fun x h1 h2 h3 => hco x (by omega) (by omega) h1 h3)
      rw [hj]
      by_cases h2 : max p o.to ≥ hi
      · rw [if_pos h2, canon_end (by omega)]
      · rw [if_neg h2]; exact hgo _ (by omega) (by omega) (by omega)
/-- where the farthest of those that have a place ends. -/
def overM (l : List Sg) (p : Int) : Int := l.foldl (fun o s => if hasS s p then max o s.to else o) (-1)
/-- where the next one begins, or the end. -/
def endM (l : List Sg) (hi p : Int) : Int := l.foldl (fun e s => if 0 < lenS s ∧ s.fr > p then min e s.fr else e) hi
theorem foldl_snoc {α β : Type} (f : β → α → β) (b : β) (l : List α) (a : α) : (l ++ [a]).foldl f b = f (l.foldl f b) a := by simp
theorem over_spec (p : Int) (l : List Sg) : (overM l p = -1 ∧ ∀ s ∈ l, hasS s p = false) ∨ (∃ s ∈ l, hasS s p = true ∧ overM l p = s.to ∧ p < s.to ∧ 0 ≤ p) := by
  have key : ∀ (l : List Sg) (b : Int), (b = -1 ∨ b ≥ 0 ∧ p < b) → (l.foldl (fun o s => if hasS s p then max o s.to else o) b = b ∧ (b = -1 → ∀ s ∈ l, hasS s p = false)) ∨ (∃ s ∈ l, hasS s p = true ∧ l.foldl (fun o s => if hasS s p then max o s.to else o) b = s.to ∧ p < s.to ∧ 0 ≤ p) := by
    intro l
    induction l with
    | nil => intro b hb; exact .inl ⟨rfl, fun _ s hs => by simp at hs⟩
    | cons o r ih =>
      intro b hb
      rw [List.foldl_cons]
      cases ho : hasS o p with
      | false =>
        rw [if_neg (by simp)]
        rcases ih b hb with ⟨h1, h2⟩ | ⟨s, hs, h⟩
        · refine .inl ⟨h1, fun hb1 s hs => ?_⟩
          rcases List.mem_cons.1 hs with rfl | hs
          · exact ho
          · exact h2 hb1 s hs
        · exact .inr ⟨s, List.mem_cons_of_mem _ hs, h⟩
      | true =>
        rw [if_pos rfl]
        obtain ⟨g1, g2, g3⟩ := has_iff.1 ho
        rcases ih (max b o.to) (.inr (by omega)) with ⟨h1, h2⟩ | ⟨s, hs, h⟩
        · by_cases hm : max b o.to = b
          · rw [h1, hm]
            refine .inl ⟨rfl, fun hb1 => ?_⟩
            omega
          · exact .inr ⟨o, List.mem_cons_self .., ho, by rw [h1]; omega, g3, by omega⟩
        · exact .inr ⟨s, List.mem_cons_of_mem _ hs, h⟩
  rcases key l (-1) (.inl rfl) with ⟨h1, h2⟩ | h
  · exact .inl ⟨h1, h2 rfl⟩
  · exact .inr h
theorem len_pos {s : Sg} : 0 < lenS s ↔ 0 ≤ s.fr ∧ s.fr < s.to := by
  unfold lenS rightS
  simp only [decide_eq_true_eq]
  split <;> omega
theorem end_spec (hi p : Int) (l : List Sg) (hp : p < hi) : p < endM l hi p ∧ endM l hi p ≤ hi ∧ (∀ s ∈ l, 0 ≤ s.fr → s.fr < s.to → p < s.fr → endM l hi p ≤ s.fr) ∧ (endM l hi p = hi ∨ ∃ s ∈ l, 0 ≤ s.fr ∧ s.fr < s.to ∧ endM l hi p = s.fr) := by
  have key : ∀ (l : List Sg) (b : Int), p < b → b ≤ hi → p < l.foldl (fun e s => if 0 < lenS s ∧ s.fr > p then min e s.fr else e) b ∧ l.foldl (fun e s => if 0 < lenS s ∧ s.fr > p then min e s.fr else e) b ≤ b ∧
      (∀ s ∈ l, 0 ≤ s.fr → s.fr < s.to → p < s.fr → l.foldl (fun e s => if 0 < lenS s ∧ s.fr > p then min e s.fr else e) b ≤ s.fr) ∧ (l.foldl (fun e s => if 0 < lenS s ∧ s.fr > p then min e s.fr else e) b = b ∨ ∃ s ∈ l, 0 ≤ s.fr ∧ s.fr < s.to ∧ l.foldl (fun e s => if 0 < lenS s ∧ s.fr > p then min e s.fr else e) b = s.fr) := by
    intro l
    induction l with
    | nil => intro b h1 h2; exact ⟨h1, Int.le_refl _, fun s hs => by simp at hs, .inl rfl⟩
    | cons o r ih =>
      intro b h1 h2
      rw [List.foldl_cons]
      by_cases ho : 0 < lenS o ∧ o.fr > p
      · rw [if_pos ho]
        obtain ⟨g1, g2⟩ := len_pos.1 ho.1
        obtain ⟨k1, k2, k3, k4⟩ := ih (min b o.fr) (by omega) (by omega)
        refine ⟨k1, by omega, fun s hs h3 h4 h5 => ?_, ?_⟩
        · rcases List.mem_cons.1 hs with rfl | hs
          · omega
          · exact k3 s hs h3 h4 h5
        · rcases k4 with k4 | ⟨s, hs, k⟩
          · by_cases hm : min b o.fr = b
            · left; omega
            · right; exact ⟨o, List.mem_cons_self .., g1, g2, by omega⟩
          · exact .inr ⟨s, List.mem_cons_of_mem _ hs, k⟩
      · rw [if_neg ho]
        obtain ⟨k1, k2, k3, k4⟩ := ih b h1 h2
        refine ⟨k1, k2, fun s hs h3 h4 h5 => ?_, ?_⟩
        · rcases List.mem_cons.1 hs with rfl | hs
          · exact absurd ⟨len_pos.2 ⟨h3, h4⟩, h5⟩ ho
          · exact k3 s hs h3 h4 h5
        · rcases k4 with k4 | ⟨s, hs, k⟩
          · exact .inl k4
          · exact .inr ⟨s, List.mem_cons_of_mem _ hs, k⟩
  obtain ⟨k1, k2, k3, k4⟩ := key l hi hp (Int.le_refl _)
  exact ⟨k1, k2, k3, k4⟩
/-- one turn of the document's loop: a jump. -/
theorem turn_over {l : List Sg} {hi p : Int} (h : 0 ≤ overM l p) : canon l hi p = canon l hi (overM l p) ∧ p < overM l p := by
  rcases over_spec p l with ⟨h1, -⟩ | ⟨s, hs, h1, h2, h3, h4⟩
  · omega
  · obtain ⟨g1, g2, g3⟩ := has_iff.1 h1
    rw [h2]
    exact ⟨canon_jump _ _ (Int.self_le_toNat _) (by omega) (fun x k1 k2 _ => cov_of hs (has_iff.2 ⟨g1, by omega, k2⟩)), h3⟩
/-- one turn of the document's loop: a gap. -/
theorem turn_gap {l : List Sg} {hi p : Int} (hp : p < hi) (h : overM l p < 0) : canon l hi p = ⟨p, endM l hi p⟩ :: canon l hi (endM l hi p) ∧ p < endM l hi p ∧ endM l hi p ≤ hi := by
  have hno : ∀ s ∈ l, hasS s p = false := by
    rcases over_spec p l with ⟨-, h1⟩ | ⟨s, hs, h1, h2, h3, h4⟩
    · exact h1
    · omega
  obtain ⟨k1, k2, k3, k4⟩ := end_spec hi p l hp
  refine ⟨canon_one k1 k2 ?_ (fun x h1 h2 => cov_no (fun s hs => ?_)), k1, k2⟩
  · rcases k4 with k4 | ⟨s, hs, g1, g2, g3⟩
    · right; omega
    · left
      rw [g3]
      exact cov_of hs (has_iff.2 ⟨g1, Int.le_refl _, g2⟩)
  · rw [Bool.eq_false_iff]
    intro hx
    obtain ⟨g1, g2, g3⟩ := has_iff.1 hx
    by_cases hsp : p < s.fr
    · have := k3 s hs g1 (by omega) hsp
      omega
    · have := hno s hs
      rw [has_iff.2 ⟨g1, by omega, by omega⟩] at this
      cases this
/-- the gaps of a span. -/
def gapsS (s : Sg) (l : List Sg) : List Sg := if rightS s then canon l s.to s.fr else []
end Go.Proofs.Ytndminmefacmnaa
