/-
  Steps only go down.
-/
import Derived.Test.YtkimkghldilliaaGreatMnB
namespace Go.Proofs.YtkimkghldilliaaGreat
open Go.RowKit Go.Lib

/-- steps go down; over stays. -/
def SLe (s s' : Ss) : Prop := s'.left ≤ s.left ∧ (s.over = true → s'.over = true)
theorem SLe.refl (s : Ss) : SLe s s := ⟨Nat.le_refl _, fun h => h⟩
theorem SLe.trans {a b c : Ss} (h : SLe a b) (k : SLe b c) : SLe a c := ⟨Nat.le_trans k.1 h.1, fun x => k.2 (h.2 x)⟩
def EL (E : Nat → Nat → Lv → Ss → Rs) : Prop := ∀ n p L s r s', E n p L s = some (r, s') → SLe s s'
section
variable {E : Nat → Nat → Lv → Ss → Rs}
theorem seq_left (hE : EL E) {L : Lv} : ∀ (ks : List Int) (f : Ht) (s : Ss) (r : Fo) (s' : Ss), seqE E L ks f s = some (r, s') → SLe s s'
  | [], f, s, r, s', h => by
    simp only [seqE, Option.some.injEq, Prod.mk.injEq] at h
    obtain ⟨-, rfl⟩ := h
    exact SLe.refl _
  | k :: ks, f, s, r, s', h => by
    unfold seqE at h
    cases h1 : E k.toNat f.en L s with
    | none => rw [h1] at h; cases h
    | some q =>
      obtain ⟨o, s1⟩ := q
      have hq := hE _ _ _ _ _ _ h1
      rw [h1] at h
      cases o with
      | miss far =>
        simp only [Option.some.injEq, Prod.mk.injEq] at h
        obtain ⟨-, rfl⟩ := h
        exact hq
      | hit g =>
        simp only at h
        cases h2 : f.then g with
        | none => rw [h2] at h; cases h
        | some g' =>
          rw [h2] at h
          exact hq.trans (seq_left hE ks g' s1 r s' h)
theorem alt_left (hE : EL E) {L : Lv} {p : Nat} : ∀ (ks : List Int) (far : Int) (s : Ss) (r : Fo) (s' : Ss), altE E L p ks far s = some (r, s') → SLe s s'
  | [], far, s, r, s', h => by
    simp only [altE, Option.some.injEq, Prod.mk.injEq] at h
    obtain ⟨-, rfl⟩ := h
    exact SLe.refl _
  | k :: ks, far, s, r, s', h => by
    unfold altE at h
    cases h3 : E k.toNat p L s with
    | none => rw [h3] at h; cases h
    | some q =>
      obtain ⟨o, s1⟩ := q
      have hq := hE _ _ _ _ _ _ h3
      rw [h3] at h
      cases o with
      | miss fr => exact hq.trans (alt_left hE ks _ s1 r s' h)
      | hit g =>
        simp only [Option.some.injEq, Prod.mk.injEq] at h
        obtain ⟨-, rfl⟩ := h
        exact hq
theorem more_left (hE : EL E) {L : Lv} {k : Nat} : ∀ (n : Nat) (f : Ht) (s : Ss) (r : Fo) (s' : Ss), moreE E L k n f s = some (r, s') → SLe s s'
  | 0, f, s, r, s', h => by cases h
  | n + 1, f, s, r, s', h => by
    unfold moreE at h
    cases h1 : E k f.en L s with
    | none => rw [h1] at h; cases h
    | some q =>
      obtain ⟨o, s1⟩ := q
      have hq := hE _ _ _ _ _ _ h1
      rw [h1] at h
      cases o with
      | miss far =>
        simp only [Option.some.injEq, Prod.mk.injEq] at h
        obtain ⟨-, rfl⟩ := h
        exact hq
      | hit g =>
        simp only at h
        split at h
        · simp only [Option.some.injEq, Prod.mk.injEq] at h
          obtain ⟨-, rfl⟩ := h
          exact hq
        · cases h2 : f.then g with
          | none => rw [h2] at h; cases h
          | some g' =>
            rw [h2] at h
            exact hq.trans (more_left hE n g' s1 r s' h)
theorem grow_left (hE : EL E) {doc : Bool} {L : Lv} {r lev : Int} {p body : Nat} : ∀ (n : Nat) (last next : Ht) (far : Int) (s : Ss) (g : Ht) (fr : Int) (s' : Ss), growE E doc L r lev p body n last next far s = some (g, fr, s') → SLe s s'
  | 0, last, next, far, s, g, fr, s', h => by cases h
  | n + 1, last, next, far, s, g, fr, s', h => by
    unfold growE at h
    split at h
    · simp only [Option.some.injEq, Prod.mk.injEq] at h
      obtain ⟨-, -, rfl⟩ := h
      exact SLe.refl _
    · cases h5 : E body p (L ++ [((r, (p : Int)), some ⟨next.en, lev, next.forest⟩)]) s with
      | none => rw [h5] at h; cases h
      | some q =>
        obtain ⟨o, s1⟩ := q
        have hq := hE _ _ _ _ _ _ h5
        rw [h5] at h
        cases o with
        | miss far =>
          simp only [Option.some.injEq, Prod.mk.injEq] at h
          obtain ⟨-, -, rfl⟩ := h
          exact hq
        | hit x =>
          simp only at h
          split at h
          · simp only [Option.some.injEq, Prod.mk.injEq] at h
            obtain ⟨-, -, rfl⟩ := h
            exact hq
          · exact hq.trans (grow_left hE n next x _ s1 g fr s' h)
theorem fresh_left (hE : EL E) {doc : Bool} {L : Lv} {r lev : Int} {p body n : Nat} {s : Ss} {o : Fo} {s' : Ss} (h : freshE E doc L r lev p body n s = some (o, s')) : SLe s s' := by
  unfold freshE at h
  cases h5 : E body p (L ++ [((r, (p : Int)), none)]) s with
  | none => rw [h5] at h; cases h
  | some q =>
    obtain ⟨q, s1⟩ := q
    have hq := hE _ _ _ _ _ _ h5
    rw [h5] at h
    cases q with
    | miss far =>
      simp only [Option.some.injEq, Prod.mk.injEq] at h
      obtain ⟨-, rfl⟩ := h
      exact hq
    | hit x =>
      simp only at h
      cases h6 : growE E doc L r lev p body n x x x.far s1 with
      | none => rw [h6] at h; cases h
      | some g =>
        obtain ⟨g, far, s2⟩ := g
        rw [h6] at h
        simp only at h
        cases h7 : (g.tried far).called r lev p with
        | none => rw [h7] at h; cases h
        | some g' =>
          rw [h7] at h
          simp only [Option.some.injEq, Prod.mk.injEq] at h
          obtain ⟨-, rfl⟩ := h
          exact hq.trans (grow_left hE _ _ _ _ _ _ _ _ h6)
theorem call_left (hE : EL E) {doc : Bool} {R : List Ru} {L : Lv} {r lev : Int} {p n : Nat} {s : Ss} {o : Fo} {s' : Ss} (h : callE E doc R L r lev p n s = some (o, s')) : SLe s s' := by
  unfold callE at h
  split at h
  · simp only [Option.some.injEq, Prod.mk.injEq] at h
    obtain ⟨-, rfl⟩ := h
    exact SLe.refl _
  · split at h
    · split at h
      · cases h
      · simp only [Option.some.injEq, Prod.mk.injEq] at h
        obtain ⟨-, rfl⟩ := h
        exact SLe.refl _
    · simp only [Option.some.injEq, Prod.mk.injEq] at h
      obtain ⟨-, rfl⟩ := h
      exact SLe.refl _
  · split at h
    · cases h
    · exact fresh_left hE h
theorem node_left (hE : EL E) {doc : Bool} {R : List Ru} {W : List UInt8} {x : Nd} {p : Nat} {L : Lv} {n : Nat} {s : Ss} {r : Fo} {s' : Ss} (h : nodeE E doc R W x p L n s = some (r, s')) : SLe s s' := by
  unfold nodeE at h
  split at h
  · simp only [Option.some.injEq, Prod.mk.injEq] at h
    obtain ⟨-, rfl⟩ := h
    exact SLe.refl _
  split at h
  · simp only [Option.some.injEq, Prod.mk.injEq] at h
    obtain ⟨-, rfl⟩ := h
    exact SLe.refl _
  split at h
  · simp only [Option.some.injEq, Prod.mk.injEq] at h
    obtain ⟨-, rfl⟩ := h
    exact SLe.refl _
  split at h
  · exact call_left hE h
  split at h
  · exact seq_left hE _ _ _ _ _ h
  split at h
  · exact alt_left hE _ _ _ _ _ h
  split at h
  · cases h
  split at h
  · exact more_left hE _ _ _ _ _ h
  split at h
  · split at h
    · cases h
    · rename_i hm
      simp only [Option.some.injEq, Prod.mk.injEq] at h
      obtain ⟨-, rfl⟩ := h
      exact hE _ _ _ _ _ _ hm
    · rename_i hm
      exact (hE _ _ _ _ _ _ hm).trans (more_left hE _ _ _ _ _ h)
  split at h
  all_goals
    simp only [Option.map_eq_some_iff] at h
    obtain ⟨⟨o, s1⟩, hm, he⟩ := h
    have hq := hE _ _ _ _ _ _ hm
    cases o <;> (first | (simp only [optE, Prod.mk.injEq] at he) | (simp only [lookE, Prod.mk.injEq] at he)) <;> obtain ⟨-, rfl⟩ := he <;> exact hq
end
theorem ev_left {doc : Bool} {R : List Ru} {N : List Nd} {W : List UInt8} : ∀ f, EL (ev doc R N W f)
  | 0 => fun n p L s r s' h => by
    simp only [ev, Option.some.injEq, Prod.mk.injEq] at h
    obtain ⟨-, rfl⟩ := h
    exact ⟨Nat.le_refl _, fun _ => rfl⟩
  | f + 1 => fun n p L s r s' h => by
    unfold ev at h
    split at h
    · simp only [Option.some.injEq, Prod.mk.injEq] at h
      obtain ⟨-, rfl⟩ := h
      exact ⟨Nat.le_refl _, fun _ => rfl⟩
    · rename_i hs
      split at h
      · cases h
      · have := node_left (ev_left f) h
        refine ⟨Nat.le_trans this.1 (by show s.left - 1 ≤ s.left; omega), fun h => absurd (Or.inl h) hs⟩
end Go.Proofs.YtkimkghldilliaaGreat
