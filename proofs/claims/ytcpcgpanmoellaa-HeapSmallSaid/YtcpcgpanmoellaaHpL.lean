/-
  Rows of things: places, swaps, where a name is.
-/
import Derived.Test.YtcpcgpanmoellaaHpP
namespace Go.Proofs.Ytcpcgpanmoellaa
open Go.RowKit Go.Lib

def pos (L : List En) (k : Nat) : En := L.getD k En.none
theorem pos_get {L : List En} {k : Nat} (h : k < L.length) : pos L k = L[k] := by simp [pos, h]
theorem pos_set {L : List En} {i : Nat} (hi : i < L.length) (e : En) : pos (L.set i e) = fun k => if k = i then e else pos L k := by
  funext k
  unfold pos
  by_cases h : k = i
  · subst h; simp [hi]
  · simp only [List.getD_eq_getElem?_getD, if_neg h]
    rw [List.getElem?_set_ne (Ne.symm h)]
def swl (L : List En) (i j : Nat) : List En := (L.set i (pos L j)).set j (pos L i)
theorem swl_len (L : List En) (i j : Nat) : (swl L i j).length = L.length := by simp [swl]
theorem pos_swl {L : List En} {i j : Nat} (hi : i < L.length) (hj : j < L.length) (hij : i ≠ j) : pos (swl L i j) = swp (pos L) i j := by
  unfold swl
  rw [pos_set (by simpa using hj), pos_set hi]
  funext k
  unfold swp
  by_cases h1 : k = j
  · have : ¬ j = i := fun h => hij h.symm
    simp [h1, this]
  · simp [h1]
theorem swl_perm {L : List En} {i j : Nat} (hi : i < L.length) (hj : j < L.length) : (swl L i j).Perm L := by
  unfold swl
  rw [pos_get hi, pos_get hj]
  exact List.set_set_perm hi hj
/-- no two of a name. -/
def Once (L : List En) : Prop := (L.map (·.name)).Nodup
theorem Once.perm {L L' : List En} (h : Once L) (hp : L'.Perm L) : Once L' := ((hp.map _).nodup_iff).2 h
/-- where a name is. -/
def whr (L : List En) (x : Int) : Option Nat := (List.range L.length).find? fun i => (pos L i).name == x
theorem whr_some {L : List En} (ho : Once L) {x : Int} {i : Nat} (hi : i < L.length) (hx : (pos L i).name = x) : whr L x = some i := by
  unfold whr
  cases hf : (List.range L.length).find? fun i => (pos L i).name == x with
  | none =>
    have := List.find?_eq_none.1 hf i (List.mem_range.2 hi)
    simp [hx] at this
  | some k =>
    have h1 := List.find?_some hf
    have h2 := List.mem_range.1 (List.mem_of_find?_eq_some hf)
    simp only [beq_iff_eq] at h1
    have h3 : (L.map (·.name))[k]'(by simpa using h2) = (L.map (·.name))[i]'(by simpa using hi) := by
      simp only [List.getElem_map, ← pos_get h2, ← pos_get hi, h1, hx]
    have := (List.getElem_inj ho).1 h3
    rw [this]
theorem whr_none {L : List En} {x : Int} (h : ∀ i, i < L.length → (pos L i).name ≠ x) : whr L x = none := by
  unfold whr
  rw [List.find?_eq_none]
  intro i hi
  simpa using h i (List.mem_range.1 hi)
theorem whr_is {L : List En} {x : Int} {i : Nat} (h : whr L x = some i) : i < L.length ∧ (pos L i).name = x := by
  unfold whr at h
  have h1 := List.find?_some h
  have h2 := List.mem_range.1 (List.mem_of_find?_eq_some h)
  exact ⟨h2, by simpa using h1⟩
theorem whr_not {L : List En} {x : Int} (h : whr L x = none) : ∀ i, i < L.length → (pos L i).name ≠ x := by
  unfold whr at h
  rw [List.find?_eq_none] at h
  intro i hi hx
  exact h i (List.mem_range.2 hi) (by simpa using hx)
/-- a swap turns two places. -/
theorem whr_swl {L : List En} (ho : Once L) {i j : Nat} (hi : i < L.length) (hj : j < L.length) (hij : i ≠ j) (x : Int) : whr (swl L i j) x = if x = (pos L j).name then some i else if x = (pos L i).name then some j else whr L x := by
  have ho' := ho.perm (swl_perm hi hj)
  have hp := pos_swl hi hj hij
  have hl := swl_len L i j
  by_cases h1 : x = (pos L j).name
  · rw [if_pos h1]
    exact whr_some ho' (by rw [hl]; exact hi) (by rw [hp]; simp [swp, h1])
  · rw [if_neg h1]
    by_cases h2 : x = (pos L i).name
    · rw [if_pos h2]
      exact whr_some ho' (by rw [hl]; exact hj) (by rw [hp]; simp [swp, Ne.symm hij, h2])
    · rw [if_neg h2]
      cases hw : whr L x with
      | none =>
        refine whr_none fun k hk => ?_
        rw [hp]
        unfold swp
        split
        · exact fun h => h1 h.symm
        · split
          · exact fun h => h2 h.symm
          · exact whr_not hw k (by rw [← hl]; exact hk)
      | some k =>
        obtain ⟨hk, hx⟩ := whr_is hw
        refine whr_some ho' (by rw [hl]; exact hk) ?_
        rw [hp]
        unfold swp
        rw [if_neg (fun h => h2 (by rw [← hx, h])), if_neg (fun h => h1 (by rw [← hx, h]))]
        exact hx
end Go.Proofs.Ytcpcgpanmoellaa
