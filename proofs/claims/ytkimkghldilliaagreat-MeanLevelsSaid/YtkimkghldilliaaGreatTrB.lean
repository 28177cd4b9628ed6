/-
  The document's forests, plainly: they are the same.
-/
import Derived.Test.YtkimkghldilliaaGreatTrA
namespace Go.Proofs.YtkimkghldilliaaGreat

/-- how many twigs so many trees take. -/
def skn : List Tw → Nat → Option Nat
  | _, 0 => some 0
  | [], _ + 1 => none
  | t :: r, k + 1 => if t.kids < 0 then none else (skn r (t.kids.toNat + k)).map (· + 1)
theorem skn_zero (l : List Tw) : skn l 0 = some 0 := by cases l <;> rfl
theorem skn_le : ∀ (l : List Tw) (k i : Nat), skn l k = some i → i ≤ l.length
  | l, 0, i, h => by rw [skn_zero] at h; simp at h; omega
  | [], k + 1, i, h => by simp [skn] at h
  | t :: r, k + 1, i, h => by
    simp only [skn] at h
    split at h
    · cases h
    · simp only [Option.map_eq_some_iff] at h
      obtain ⟨j, hj, rfl⟩ := h
      have := skn_le r _ _ hj
      simp; omega
theorem skn_add : ∀ (l : List Tw) (a b : Nat), skn l (a + b) = (skn l a).bind fun i => (skn (l.drop i) b).map (i + ·)
  | l, 0, b => by simp [skn_zero]
  | [], a + 1, b => by
    rw [show a + 1 + b = (a + b) + 1 from by omega]
    simp [skn]
  | t :: r, a + 1, b => by
    rw [show a + 1 + b = (a + b) + 1 from by omega]
    simp only [skn]
    by_cases h : t.kids < 0
    · simp [h]
    · simp only [h, if_false]
      rw [show t.kids.toNat + (a + b) = (t.kids.toNat + a) + b from by omega, skn_add r (t.kids.toNat + a) b]
      cases skn r (t.kids.toNat + a) with
      | none => rfl
      | some i =>
        simp only [Option.bind_some, Option.map_some, List.drop_succ_cons]
        cases skn (r.drop i) b with
        | none => rfl
        | some j => simp; omega
/-- behind the tree at n. -/
def rAft (l : List Tw) (n : Nat) : Option Nat := (skn (l.drop n) 1).map (n + ·)
theorem rAft_eq (l : List Tw) {n : Nat} (h : n < l.length) (hk : ¬ (atT l n).kids < 0) : rAft l n = (skn (l.drop (n + 1)) (atT l n).kids.toNat).map (n + 1 + ·) := by
  unfold rAft
  rw [drop_at l h]
  simp only [skn, hk, if_false]
  cases skn (l.drop (n + 1)) ((atT l n).kids.toNat + 0) with
  | none => rfl
  | some i => simp; omega
theorem rAft_out (l : List Tw) {n : Nat} (h : l.length ≤ n) : rAft l n = none := by
  unfold rAft
  rw [List.drop_eq_nil_of_le h]
  rfl
theorem rAft_neg (l : List Tw) {n : Nat} (h : n < l.length) (hk : (atT l n).kids < 0) : rAft l n = none := by
  unfold rAft
  rw [drop_at l h]
  simp [skn, hk]
theorem rAft_lt (l : List Tw) {n m : Nat} (h : rAft l n = some m) : n < m ∧ m ≤ l.length ∧ n < l.length := by
  have hn : n < l.length := by
    apply Classical.byContradiction
    intro hn
    rw [rAft_out l (by omega)] at h
    cases h
  by_cases hk : (atT l n).kids < 0
  · rw [rAft_neg l hn hk] at h; cases h
  · rw [rAft_eq l hn hk] at h
    simp only [Option.map_eq_some_iff] at h
    obtain ⟨j, hj, rfl⟩ := h
    have := skn_le _ _ _ hj
    simp at this
    omega
/-- the loop of after. -/
theorem skn_next (l : List Tw) {n k i : Nat} (h : skn (l.drop n) k = some i) : skn (l.drop n) (k + 1) = (rAft l (n + i)).map (fun m => m - n) := by
  rw [skn_add, h]
  simp only [Option.bind_some, List.drop_drop, rAft]
  cases skn (l.drop (n + i)) 1 with
  | none => rfl
  | some j => simp; omega
theorem skn_none (l : List Tw) {n k j : Nat} (h : skn (l.drop n) k = none) (hk : k ≤ j) : skn (l.drop n) j = none := by
  obtain ⟨d, rfl⟩ : ∃ d, j = k + d := ⟨j - k, by omega⟩
  rw [skn_add, h]
  rfl
/-- where so many trees stand. -/
def rowL (l : List Tw) : Nat → Nat → Option (List Nat)
  | 0, _ => some []
  | k + 1, n => (rAft l n).bind fun m => (rowL l k m).map (n :: ·)
def rootsL (l : List Tw) : Nat → Nat → Option (List Nat)
  | 0, n => if n < l.length then none else some []
  | f + 1, n => if n < l.length then (rAft l n).bind fun m => (rootsL l f m).map (n :: ·) else some []
def apartB (l : List Tw) : List Nat → Bool
  | [] => true
  | a :: r => match r with
    | [] => true
    | b :: _ => decide ((atT l a).to ≤ (atT l b).fr) && apartB l r
def spanB (t : Tw) : Bool := decide (0 ≤ t.fr ∧ t.fr ≤ t.to)
def insB (s t : Tw) : Bool := decide (0 ≤ s.fr ∧ s.fr ≤ s.to ∧ 0 ≤ t.fr ∧ t.fr ≤ t.to ∧ t.fr ≤ s.fr ∧ s.to ≤ t.to)
def refOk (l : List Tw) (n : Nat) : Bool :=
  decide (0 ≤ (atT l n).rule ∧ 0 ≤ (atT l n).lev ∧ (atT l n).lev ≤ 99) && spanB (atT l n) && apartB l ((rowL l (atT l n).kids.toNat (n + 1)).getD []) && ((rowL l (atT l n).kids.toNat (n + 1)).getD []).all fun i => insB (atT l i) (atT l n)
def refRight (l : List Tw) : Bool :=
  match rootsL l l.length 0 with
  | none => false
  | some top => apartB l top && (List.range l.length).all (refOk l)
theorem rowL_len (l : List Tw) : ∀ (k n : Nat) (rs : List Nat), rowL l k n = some rs → rs.length = k
  | 0, n, rs, h => by simp [rowL] at h; subst h; rfl
  | k + 1, n, rs, h => by
    simp only [rowL, Option.bind_eq_some_iff, Option.map_eq_some_iff] at h
    obtain ⟨m, hm, r, hr, rfl⟩ := h
    simp [rowL_len l k m r hr]
/-- rows stand just if so many trees do. -/
theorem rowL_skn (l : List Tw) : ∀ (k n i : Nat), skn (l.drop n) k = some i → ∃ rs, rowL l k n = some rs
  | 0, n, i, h => ⟨[], rfl⟩
  | k + 1, n, i, h => by
    rw [show k + 1 = 1 + k from by omega, skn_add] at h
    simp only [Option.bind_eq_some_iff, Option.map_eq_some_iff, List.drop_drop] at h
    obtain ⟨a, ha, b, hb, rfl⟩ := h
    obtain ⟨rs, hrs⟩ := rowL_skn l k (n + a) b hb
    exact ⟨n :: rs, by simp [rowL, rAft, ha, hrs]⟩
theorem skn_rowL (l : List Tw) : ∀ (k n : Nat) (rs : List Nat), rowL l k n = some rs → ∃ i, skn (l.drop n) k = some i
  | 0, n, rs, h => ⟨0, skn_zero _⟩
  | k + 1, n, rs, h => by
    simp only [rowL, Option.bind_eq_some_iff, Option.map_eq_some_iff] at h
    obtain ⟨m, hm, r, hr, rfl⟩ := h
    obtain ⟨j, hj⟩ := skn_rowL l k m r hr
    rw [show k + 1 = 1 + k from by omega, skn_add]
    simp only [rAft, Option.map_eq_some_iff] at hm
    obtain ⟨a, ha, rfl⟩ := hm
    simp [ha, List.drop_drop, hj]
theorem For.skn {l : List Tw} {lo hi a : Int} {n e : Nat} {rs : List Nat} (h : For l lo hi a n e rs) : skn (l.drop n) rs.length = some (e - n) := by
  induction h with
  | nil => simp [skn_zero]
  | @cons lo hi a n m e ks rs h0 hk hlo hhi ha h3 h5 h4 h1 h2 =>
    have g3 := h3.le
    have g4 := h4.le
    have hneg : ¬ (atT l n).kids < 0 := by omega
    rw [drop_at l h0]
    simp only [List.length_cons, YtkimkghldilliaaGreat.skn, hneg, if_false]
    rw [show (atT l n).kids.toNat = ks.length from by omega, skn_add, h1]
    simp only [Option.bind_some, List.drop_drop]
    rw [show n + 1 + (m - (n + 1)) = m from by omega, h2]
    simp
    omega
theorem Sub.aft {l : List Tw} {n m : Nat} {ks : List Nat} (h : Sub l n m ks) : rAft l n = some m := by
  have hlt := h.lt
  obtain ⟨h1, h2, h3, h4⟩ := h
  rw [rAft_eq l h1 (by have := h2; unfold okT at this; omega), show (atT l n).kids.toNat = ks.length from by omega, h4.skn]
  simp
  omega
theorem For.rowL {l : List Tw} {lo hi a : Int} {n e : Nat} {rs : List Nat} (h : For l lo hi a n e rs) : rowL l rs.length n = some rs := by
  induction h with
  | nil => rfl
  | @cons lo hi a n m e ks rs h0 hk hlo hhi ha h3 h5 h4 h1 h2 =>
    have : rAft l n = some m := Sub.aft ⟨h0, hk, h5, h3⟩
    simp [YtkimkghldilliaaGreat.rowL, this, h2]
theorem For.rootsL {l : List Tw} {lo hi a : Int} {n e : Nat} {rs : List Nat} (h : For l lo hi a n e rs) : e = l.length → ∀ f, rs.length ≤ f → rootsL l f n = some rs := by
  induction h with
  | @nil lo hi a n => intro he f hf; cases f <;> simp [YtkimkghldilliaaGreat.rootsL, he]
  | @cons lo hi a n m e ks rs h0 hk hlo hhi ha h3 h5 h4 h1 h2 =>
    intro he f hf
    have : rAft l n = some m := Sub.aft ⟨h0, hk, h5, h3⟩
    cases f with
    | zero => simp at hf
    | succ f => simp [YtkimkghldilliaaGreat.rootsL, this, h0, h2 he f (by simpa using hf)]
theorem For.len_le {l : List Tw} {lo hi a : Int} {n e : Nat} {rs : List Nat} (h : For l lo hi a n e rs) : rs.length ≤ e - n := by
  induction h with
  | nil => simp
  | @cons lo hi a n m e ks rs h0 hk hlo hhi ha h3 h5 h4 h1 h2 =>
    have g3 := h3.le
    have g4 := h4.le
    simp; omega
theorem For.ends {l : List Tw} {lo hi a : Int} {n e : Nat} {rs : List Nat} (h : For l lo hi a n e rs) : (∀ r ∈ rs, lo ≤ (atT l r).fr ∧ (atT l r).to ≤ hi ∧ okT (atT l r)) ∧ apartB l rs = true ∧ (∀ r, rs.head? = some r → a ≤ (atT l r).fr) := by
  induction h with
  | nil => simp [apartB]
  | @cons lo hi a n m e ks rs h0 hk hlo hhi ha h3 h5 h4 h1 h2 =>
    obtain ⟨g1, g2, g3⟩ := h2
    refine ⟨fun r hr => ?_, ?_, fun r hr => by simp at hr; subst hr; exact ha⟩
    · rcases List.mem_cons.1 hr with rfl | hr
      · exact ⟨hlo, hhi, hk⟩
      · exact g1 r hr
    · cases rs with
      | nil => rfl
      | cons b rs => simp only [apartB, Bool.and_eq_true, decide_eq_true_eq]; exact ⟨g3 b rfl, g2⟩
theorem ref_of_right {l : List Tw} (h : RightP l) : refRight l = true := by
  obtain ⟨rs, h⟩ := h
  have hr := h.rootsL rfl l.length (by have := h.len_le; omega)
  unfold refRight
  rw [hr]
  simp only [h.ends.2.1, Bool.true_and, List.all_eq_true, List.mem_range]
  intro n hn
  obtain ⟨m, ks, hs, -⟩ := h.sub n (Nat.zero_le _) hn
  obtain ⟨h1, h2, h3, h4⟩ := hs
  obtain ⟨e1, e2, -⟩ := h4.ends
  unfold refOk
  rw [show (atT l n).kids.toNat = ks.length from by omega, h4.rowL]
  unfold okT at h2
  simp only [Option.getD_some, e2, Bool.and_true, Bool.and_eq_true, decide_eq_true_eq, List.all_eq_true]
  refine ⟨⟨by omega, by simp [spanB]; omega⟩, fun i hi => ?_⟩
  obtain ⟨f1, f2, f3⟩ := e1 i hi
  unfold okT at f3
  simp [insB]
  omega
theorem for_of_ref {l : List Tw} (hok : ∀ n, n < l.length → refOk l n = true) : ∀ (d n k i : Nat), skn (l.drop n) k = some i → i ≤ d → ∀ (lo hi a : Int) (rs : List Nat), rowL l k n = some rs →
    (∀ r ∈ rs, lo ≤ (atT l r).fr ∧ (atT l r).to ≤ hi) → apartB l rs = true → (∀ r, rs.head? = some r → a ≤ (atT l r).fr) → For l lo hi a n (n + i) rs := by
  intro d
  induction d with
  | zero =>
    intro n k i h hi lo hi' a rs hr _ _ _
    cases k with
    | zero =>
      rw [skn_zero] at h
      simp at h
      subst h
      simp [rowL] at hr
      subst hr
      exact .nil
    | succ k =>
      simp only [rowL, Option.bind_eq_some_iff, Option.map_eq_some_iff] at hr
      obtain ⟨m, hm, -⟩ := hr
      obtain ⟨h1, h2, h3⟩ := rAft_lt l hm
      rw [drop_at l h3] at h
      simp only [skn] at h
      split at h
      · cases h
      · simp only [Option.map_eq_some_iff] at h
        obtain ⟨j, -, rfl⟩ := h
        omega
  | succ d ih =>
    intro n k i h hi lo hi' a rs hr hin hap hhd
    cases k with
    | zero =>
      rw [skn_zero] at h
      simp at h
      subst h
      simp [rowL] at hr
      subst hr
      exact .nil
    | succ k =>
      simp only [rowL, Option.bind_eq_some_iff, Option.map_eq_some_iff] at hr
      obtain ⟨m, hm, rs, hr, rfl⟩ := hr
      obtain ⟨h1, h2, h3⟩ := rAft_lt l hm
      rw [drop_at l h3] at h
      simp only [skn] at h
      split at h
      · cases h
      · rename_i hk
        simp only [Option.map_eq_some_iff] at h
        obtain ⟨i, h, rfl⟩ := h
        rw [skn_add] at h
        simp only [Option.bind_eq_some_iff, Option.map_eq_some_iff, List.drop_drop] at h
        obtain ⟨j, hj, p, hp, rfl⟩ := h
        have hm2 : m = n + 1 + j := by
          rw [rAft_eq l h3 hk, hj] at hm
          simp at hm
          omega
        subst hm2
        obtain ⟨ks, hks⟩ := rowL_skn l _ _ _ hj
        have ho := hok n h3
        unfold refOk at ho
        rw [hks] at ho
        simp only [Option.getD_some, Bool.and_eq_true, decide_eq_true_eq, List.all_eq_true] at ho
        obtain ⟨⟨⟨o1, o2⟩, o3⟩, o4⟩ := ho
        simp [spanB] at o2
        obtain ⟨q1, q2⟩ := hin n (by simp)
        have hins : ∀ r ∈ ks, (atT l n).fr ≤ (atT l r).fr ∧ (atT l r).to ≤ (atT l n).to := fun r hr => by
          have := o4 r hr
          simp [insB] at this
          omega
        have hF := ih (n + 1) _ j hj (by omega) (atT l n).fr (atT l n).to (atT l n).fr ks hks hins o3 (fun r hr => (hins r (List.mem_of_mem_head? hr)).1)
        have hap2 : apartB l rs = true := by
          cases rs with
          | nil => rfl
          | cons b rs => simp only [apartB, Bool.and_eq_true] at hap; exact hap.2
        have hhd2 : ∀ r, rs.head? = some r → (atT l n).to ≤ (atT l r).fr := fun r hr => by
          cases rs with
          | nil => simp at hr
          | cons b rs =>
            simp only [apartB, Bool.and_eq_true, decide_eq_true_eq] at hap
            simp at hr
            subst hr
            exact hap.1
        have hR := ih (n + 1 + j) k p hp (by omega) lo hi' (atT l n).to rs hr (fun r hr => hin r (by simp [hr])) hap2 hhd2
        have := For.cons h3 (by unfold okT; omega) q1 q2 (hhd n rfl) hF (by rw [rowL_len l _ _ _ hks]; omega) hR
        rw [show n + (j + p + 1) = n + 1 + j + p from by omega]
        exact this
theorem rootsL_row (l : List Tw) : ∀ (f n : Nat) (rs : List Nat), n ≤ l.length → rootsL l f n = some rs → rowL l rs.length n = some rs ∧ skn (l.drop n) rs.length = some (l.length - n)
  | 0, n, rs, hn, h => by
    simp only [rootsL] at h
    split at h
    · cases h
    · simp at h
      subst h
      simp [rowL, skn_zero]
      omega
  | f + 1, n, rs, hn, h => by
    simp only [rootsL] at h
    split at h
    · simp only [Option.bind_eq_some_iff, Option.map_eq_some_iff] at h
      obtain ⟨m, hm, rs, hr, rfl⟩ := h
      have hlt := rAft_lt l hm
      obtain ⟨h1, h2⟩ := rootsL_row l f m rs hlt.2.1 hr
      refine ⟨by simp [rowL, hm, h1], ?_⟩
      simp only [rAft, Option.map_eq_some_iff] at hm
      obtain ⟨a, ha, rfl⟩ := hm
      rw [List.length_cons, show rs.length + 1 = 1 + rs.length from by omega, skn_add, ha]
      simp [List.drop_drop, h2]
      omega
    · simp at h
      subst h
      simp [rowL, skn_zero]
      omega
theorem right_of_ref {l : List Tw} (hw : ∀ n, n < l.length → (atT l n).to ≤ 9223372036854775807) (h : refRight l = true) : RightP l := by
  unfold refRight at h
  split at h
  · cases h
  · rename_i top htop
    simp only [Bool.and_eq_true, List.all_eq_true, List.mem_range] at h
    obtain ⟨h1, h2⟩ := rootsL_row l l.length 0 top (Nat.zero_le _) htop
    have hr : ∀ r ∈ top, r < l.length := by
      have : ∀ (k n : Nat) (rs : List Nat), rowL l k n = some rs → ∀ r ∈ rs, r < l.length := fun k => by
        induction k with
        | zero => intro n rs hrs r hr; simp [rowL] at hrs; subst hrs; simp at hr
        | succ k ih =>
          intro n rs hrs r hr
          simp only [rowL, Option.bind_eq_some_iff, Option.map_eq_some_iff] at hrs
          obtain ⟨m, hm, q, hq, rfl⟩ := hrs
          rcases List.mem_cons.1 hr with rfl | hr
          · exact (rAft_lt l hm).2.2
          · exact ih m q hq r hr
      exact this _ _ _ h1
    have hs : ∀ r ∈ top, 0 ≤ (atT l r).fr := fun r hrm => by
      have := h.2 r (hr r hrm)
      unfold refOk at this
      simp [spanB] at this
      omega
    have := for_of_ref h.2 l.length 0 top.length l.length (by simpa using h2) (Nat.le_refl _) 0 9223372036854775807 0 top h1 (fun r hrm => ⟨hs r hrm, hw r (hr r hrm)⟩) h.1 (fun r hrm => hs r (List.mem_of_mem_head? hrm))
    rw [Nat.zero_add] at this
    exact ⟨top, this⟩
end Go.Proofs.YtkimkghldilliaaGreat
