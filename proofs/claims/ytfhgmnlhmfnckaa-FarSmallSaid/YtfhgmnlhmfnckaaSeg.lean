/-
  Plain laws: a record in parts, as a row of rows: the innermost last.
-/
import Derived.Test.YtfhgmnlhmfnckaaRefF
import Derived.Test.YtfhgmnlhmfnckaaFarP
namespace Go.Proofs.Ytfhgmnlhmfnckaa
open Go.RowKit Go.Lib

/-- where parts begin. -/
def marks (S : List (List Miss)) : List Nat := (List.range S.length).map fun i => (S.take (i + 1)).flatten.length
theorem marks_nil : marks [] = [] := rfl
theorem marks_len (S : List (List Miss)) : (marks S).length = S.length := by simp [marks]
theorem marks_snoc (S : List (List Miss)) (T : List Miss) : marks (S ++ [T]) = marks S ++ [(S.flatten ++ T).length] := by
  unfold marks
  rw [List.length_append, List.length_singleton, List.range_succ, List.map_append]
  congr 1
  · refine List.map_congr_left fun i hi => ?_
    rw [List.mem_range] at hi
    rw [List.take_append_of_le_length (by omega)]
  · simp [List.take_of_length_le]
theorem marks_le (S : List (List Miss)) : ∀ n ∈ marks S, n ≤ S.flatten.length := by
  intro n hn
  simp only [marks, List.mem_map, List.mem_range] at hn
  obtain ⟨i, hi, rfl⟩ := hn
  have : S.flatten = (S.take (i + 1)).flatten ++ (S.drop (i + 1)).flatten := by rw [← List.flatten_append, List.take_append_drop]
  rw [this, List.length_append]
  omega
theorem part_seg (S : List (List Miss)) (T : List Miss) : partL (S.flatten ++ T) (marks S) = T := by
  rcases List.eq_nil_or_concat S with rfl | ⟨S', s, rfl⟩
  · simp [marks, partL]
  · rw [List.concat_eq_append, marks_snoc]
    have e : (S'.flatten ++ s).length = (S' ++ [s]).flatten.length := by simp
    have e2 : partL ((S' ++ [s]).flatten ++ T) (marks S' ++ [(S'.flatten ++ s).length]) = ((S' ++ [s]).flatten ++ T).drop (S'.flatten ++ s).length := by simp [partL]
    rw [e2, e, List.drop_left]
theorem ask_seg (W : List UInt8) (A T : List Miss) (c : Nat → Bool) (place : Int) : askL W (A ++ T) c place = A ++ askL W T c place := by
  unfold askL
  split
  · rfl
  · split
    · rfl
    · rw [List.append_assoc]
theorem ask_sum (W : List UInt8) (T : List Miss) (c : Nat → Bool) (place : Int) : askA W (sumP T) c place = sumP (askL W T c place) := by
  unfold askL
  by_cases h0 : place < 0
  · rw [askA_neg h0, if_pos h0]
  · rw [if_neg h0]
    by_cases ht : thereB W c place = true
    · rw [askA_hit ht, if_pos ht]
    · rw [askA_miss (by omega) (by simpa using ht), if_neg ht, sumP_snoc]
theorem text_seg (W : List UInt8) (A T : List Miss) : ∀ (l : List UInt8) (place : Int), textL W (A ++ T) l place = A ++ textL W T l place
  | [], _ => rfl
  | b :: l, place => by
    unfold textL
    split
    · exact text_seg W A T l _
    · rw [List.append_assoc]
theorem text_sum (W : List UInt8) (T : List Miss) : ∀ (l : List UInt8) (place : Int), textP W (sumP T) l place = sumP (textL W T l place)
  | [], _ => rfl
  | b :: l, place => by
    unfold textP textL
    split
    · exact text_sum W T l _
    · rw [sumP_snoc]
/-- every place of a row is one. -/
def Pos (T : List Miss) : Prop := ∀ q ∈ T, 0 ≤ q.1
theorem ask_pos {W : List UInt8} {T : List Miss} (h : Pos T) (c : Nat → Bool) (place : Int) : Pos (askL W T c place) := by
  intro q hq
  unfold askL at hq
  split at hq
  · exact h q hq
  · split at hq
    · exact h q hq
    · rcases List.mem_append.1 hq with hq | hq
      · exact h q hq
      · rw [List.mem_singleton] at hq
        subst hq
        show 0 ≤ place
        omega
theorem text_pos {W : List UInt8} {T : List Miss} (h : Pos T) : ∀ (l : List UInt8) (place : Int), 0 ≤ place → Pos (textL W T l place)
  | [], _, _ => h
  | b :: l, place, h0 => by
    unfold textL
    split
    · exact text_pos h l _ (by omega)
    · intro q hq
      rcases List.mem_append.1 hq with hq | hq
      · exact h q hq
      · rw [List.mem_singleton] at hq
        subst hq
        exact h0
theorem ask_len (W : List UInt8) (T : List Miss) (c : Nat → Bool) (place : Int) : (askL W T c place).length ≤ T.length + 1 := by
  unfold askL
  split
  · omega
  · split <;> simp
theorem text_len (W : List UInt8) (T : List Miss) : ∀ (l : List UInt8) (place : Int), (textL W T l place).length ≤ T.length + 1
  | [], _ => by simp [textL]
  | b :: l, place => by
    unfold textL
    split
    · exact text_len W T l _
    · simp
theorem pos_append {A B : List Miss} (h : Pos A) (k : Pos B) : Pos (A ++ B) := fun q hq => (List.mem_append.1 hq).elim (h q) (k q)
theorem sum_ok {T : List Miss} (h : Pos T) : sumP T = pFresh ∨ 0 ≤ (sumP T).1 := by
  rw [sumP_eq T h]
  have := maxM_ge T
  by_cases hm : maxM T = -1
  · left
    rw [hm]
    refine Prod.ext rfl ?_
    funext b
    show hopM T (-1) b = false
    unfold hopM
    rw [List.any_eq_false]
    intro q hq
    have := h q hq
    have hne : ¬ q.1 = -1 := by omega
    simp [hne]
  · right
    show 0 ≤ maxM T
    omega
theorem sum_join {A B : List Miss} (h : Pos A) (k : Pos B) : endP (sumP A) (sumP B) = sumP (A ++ B) := by
  rw [sumP_append A B h k]
  rfl
end Go.Proofs.Ytfhgmnlhmfnckaa
