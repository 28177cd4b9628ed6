/-
  Chapter far: FarDoes: what each deed does, in rows.
-/
import Derived.Test.YtfhgmnlhmfnckaaDoA
namespace Go.Proofs.Ytfhgmnlhmfnckaa
open Go.RowKit Go.Lib

/-- while a deed is done: one record may be ahead. -/
def DE (w0 w : World) (a r x : Nat) (v : Value) (d : Deed) (W : List UInt8) (S : List (List Miss)) (T : List Miss) (S' : List (List Miss)) (T' : List Miss) : Prop := DS w0 w a r x v (deedO d) W (partsOf S T) (S'.flatten ++ T') (marks S')
section
variable {w0 : World} {a r x : Nat} {v : Value} {d : Deed} {W : List UInt8} {S S' : List (List Miss)} {T T' : List Miss} (w : World)
theorem DE.later {w' : World} (h : DE w0 w a r x v d W S T S' T') (hb : Below w.heap.size w w') : DE w0 w' a r x v d W S T S' T' := DS.later h hb
theorem DE.box (h : DE w0 w a r x v d W S T S' T') : w.heap[x]? = some (deedO d) := DS.box h
theorem de_farSet (c : Nat → Bool) (place : Int) (h : DE w0 w a r x v d W S T S' T') :
    Calls Try.prog 10 #[.pointer (some ⟨a, 0, none⟩), clv c, .int .i64 place] w fun e w' => e = .returned (.bool (thereB W c place)) ∧ DE w0 w' a r x v d W S (askL W T c place) S' T' := by
  have := do_farSet w _ _ c place h
  rw [ask_sum] at this
  exact this
theorem de_farAny (place : Int) (h : DE w0 w a r x v d W S T S' T') :
    Calls Try.prog 23 #[.pointer (some ⟨a, 0, none⟩), .int .i64 place] w fun e w' => e = .returned (.bool (thereB W (clNot clNone) place)) ∧ DE w0 w' a r x v d W S (askL W T (clNot clNone) place) S' T' := by
  have := do_farAny w _ _ place h
  rw [ask_sum] at this
  exact this
/-- what a miss leaves. -/
def missL (T : List Miss) (c : Nat → Bool) (place : Int) : List Miss := if place < 0 then T else T ++ [(place, c)]
theorem de_farMiss (c : Nat → Bool) (place : Int) (h : DE w0 w a r x v d W S T S' T') :
    Calls Try.prog 29 #[.pointer (some ⟨a, 0, none⟩), .int .i64 place, clv c] w fun e w' => e = .returned (.tuple #[]) ∧ DE w0 w' a r x v d W S (missL T c place) S' T' := by
  have := do_farMiss w _ _ c place h
  have e : (if place < 0 then sumP T else missP (sumP T) place c) = sumP (missL T c place) := by
    unfold missL
    split
    · rfl
    · rw [sumP_snoc]
  rw [e] at this
  exact this
/-- what asking for a text leaves. -/
def txtL (W : List UInt8) (T : List Miss) (s : ByteArray) (place : Int) : List Miss := if place < 0 then T else textL W T s.data.toList place
def txtB (W : List UInt8) (s : ByteArray) (place : Int) : Bool := if place < 0 then false else textB W s.data.toList place
theorem de_farText (s : ByteArray) (place : Int) (h : DE w0 w a r x v d W S T S' T') (hp : place + s.size ≤ 9223372036854775807) :
    Calls Try.prog 16 #[.pointer (some ⟨a, 0, none⟩), .string s, .int .i64 place] w fun e w' => e = .returned (.bool (txtB W s place)) ∧ DE w0 w' a r x v d W S (txtL W T s place) S' T' := by
  have := do_farText w _ _ s place h hp
  have e : (if place < 0 then sumP T else textP W (sumP T) s.data.toList place) = sumP (txtL W T s place) := by
    unfold txtL
    split
    · rfl
    · rw [text_sum]
  rw [e] at this
  exact this
theorem de_farBegin (h : DE w0 w a r x v d W S T S' T') (hn : S.length ≤ 900000) :
    Calls Try.prog 14 #[.pointer (some ⟨a, 0, none⟩)] w fun e w' => e = .returned (.int .i64 ((S.length : Int) + 1)) ∧ DE w0 w' a r x v d W (S ++ [T]) [] S' T' := by
  have := do_farBegin w _ _ h (by simp; omega)
  rw [List.length_map] at this
  have e : S.map sumP ++ [sumP T] ++ [(-1, clNone)] = partsOf (S ++ [T]) [] := by simp [partsOf, sumP]
  rw [e] at this
  exact this
theorem de_farEnd (s : List Miss) (h : DE w0 w a r x v d W (S ++ [s]) T S' T') (hs : Pos s) (ht : Pos T) (hn : S.length ≤ 900000) :
    Calls Try.prog 15 #[.pointer (some ⟨a, 0, none⟩)] w fun e w' => e = .returned (.tuple #[.int .i64 (sumP T).1, .int .i64 0]) ∧ DE w0 w' a r x v d W S (s ++ T) S' T' := by
  have e : partsOf (S ++ [s]) T = S.map sumP ++ [sumP s] ++ [sumP T] := by simp [partsOf]
  unfold DE at h
  rw [e] at h
  have := do_farEnd w _ _ _ h (by simp; omega) (sum_ok ht)
  rw [sum_join hs ht] at this
  exact this
theorem de_farEnd_one (h : DE w0 w a r x v d W [] T S' T') :
    Calls Try.prog 15 #[.pointer (some ⟨a, 0, none⟩)] w fun e w' => e = .returned (.tuple #[.int .i64 0, .int .i64 5]) ∧ DE w0 w' a r x v d W [] T S' T' := do_farEnd_one w _ h
theorem de_farFar (h : DE w0 w a r x v d W S T S' T') :
    Calls Try.prog 12 #[.pointer (some ⟨a, 0, none⟩)] w fun e w' => e = .returned (.int .i64 (sumP T).1) ∧ DE w0 w' a r x v d W S T S' T' := do_farFar w _ _ h
theorem de_farHoped (h : DE w0 w a r x v d W S T S' T') :
    Calls Try.prog 13 #[.pointer (some ⟨a, 0, none⟩)] w fun e w' => e = .returned (clv (sumP T).2) ∧ DE w0 w' a r x v d W S T S' T' := do_farHoped w _ _ h

theorem de_docSet (c : Nat → Bool) (place : Int) (h : DE w0 w a r x v d W S T S' T') (hn : (S'.flatten ++ T').length ≤ 1000000) :
    Calls Try.prog 25 #[.pointer (some ⟨r, 0, none⟩), clv c, .int .i64 place] w fun e w' => e = .returned (.bool (thereB W c place)) ∧ DE w0 w' a r x v d W S T S' (askL W T' c place) := by
  have := do_docSet w c place h hn
  rw [ask_seg] at this
  exact this
theorem de_docAny (place : Int) (h : DE w0 w a r x v d W S T S' T') (hn : (S'.flatten ++ T').length ≤ 1000000) :
    Calls Try.prog 24 #[.pointer (some ⟨r, 0, none⟩), .int .i64 place] w fun e w' => e = .returned (.bool (thereB W (clNot clNone) place)) ∧ DE w0 w' a r x v d W S T S' (askL W T' (clNot clNone) place) := by
  have := do_docAny w place h hn
  rw [ask_seg] at this
  exact this
theorem de_docMiss (c : Nat → Bool) (place : Int) (h : DE w0 w a r x v d W S T S' T') (hn : (S'.flatten ++ T').length ≤ 1000000) :
    Calls Try.prog 30 #[.pointer (some ⟨r, 0, none⟩), .int .i64 place, clv c] w fun e w' => e = .returned (.tuple #[]) ∧ DE w0 w' a r x v d W S T S' (missL T' c place) := by
  have := do_docMiss w c place h hn
  have e : (if place < 0 then S'.flatten ++ T' else S'.flatten ++ T' ++ [(place, c)]) = S'.flatten ++ missL T' c place := by
    unfold missL
    split
    · rfl
    · rw [List.append_assoc]
  rw [e] at this
  exact this
theorem de_docText (s : ByteArray) (place : Int) (h : DE w0 w a r x v d W S T S' T') (hn : (S'.flatten ++ T').length ≤ 1000000) (hp : place + s.size ≤ 9223372036854775807) :
    Calls Try.prog 26 #[.pointer (some ⟨r, 0, none⟩), .string s, .int .i64 place] w fun e w' => e = .returned (.bool (txtB W s place)) ∧ DE w0 w' a r x v d W S T S' (txtL W T' s place) := by
  have := do_docText w s place h hn hp
  have e : (if place < 0 then S'.flatten ++ T' else textL W (S'.flatten ++ T') s.data.toList place) = S'.flatten ++ txtL W T' s place := by
    unfold txtL
    split
    · rfl
    · rw [text_seg]
  rw [e] at this
  exact this
theorem de_docBegin (h : DE w0 w a r x v d W S T S' T') (hn : (S'.flatten ++ T').length ≤ 1000000) (hn2 : S'.length ≤ 900000) :
    Calls Try.prog 27 #[.pointer (some ⟨r, 0, none⟩)] w fun e w' => e = .returned (.int .i64 ((S'.length : Int) + 1)) ∧ DE w0 w' a r x v d W S T (S' ++ [T']) [] := by
  have := do_docBegin w h hn (by rw [marks_len]; omega)
  rw [marks_len, ← marks_snoc] at this
  unfold DE
  simp only [List.flatten_append, List.flatten_cons, List.flatten_nil, List.append_nil]
  exact this
theorem de_docEnd_none (h : DE w0 w a r x v d W S T [] T') :
    Calls Try.prog 28 #[.pointer (some ⟨r, 0, none⟩)] w fun e w' => e = .returned (.tuple #[.int .i64 0, .int .i64 5]) ∧ DE w0 w' a r x v d W S T [] T' := do_docEnd_none w h
theorem de_docEnd (s : List Miss) (h : DE w0 w a r x v d W S T (S' ++ [s]) T') (hn : ((S' ++ [s]).flatten ++ T').length ≤ 1000000) (hn2 : S'.length ≤ 900000) (ht : Pos T') :
    Calls Try.prog 28 #[.pointer (some ⟨r, 0, none⟩)] w fun e w' => e = .returned (.tuple #[.int .i64 (sumP T').1, .int .i64 0]) ∧ DE w0 w' a r x v d W S T S' (s ++ T') := by
  have hp := part_seg (S' ++ [s]) T'
  have hle := marks_le (S' ++ [s])
  unfold DE at h
  rw [marks_snoc] at h hp hle
  have := do_docEnd w _ h (fun n hn' => Nat.le_trans (hle n hn') (by simp)) hn (by rw [marks_len]; omega)
  rw [hp] at this
  have e1 : maxM T' = (sumP T').1 := by rw [sumP_eq T' ht]
  have e2 : (S' ++ [s]).flatten ++ T' = S'.flatten ++ (s ++ T') := by simp
  rw [e1, e2] at this
  exact this
theorem de_docFar (h : DE w0 w a r x v d W S T S' T') (hn : (S'.flatten ++ T').length ≤ 1000000) (hn2 : S'.length ≤ 900000) (ht : Pos T') :
    Calls Try.prog 31 #[.pointer (some ⟨r, 0, none⟩)] w fun e w' => e = .returned (.int .i64 (sumP T').1) ∧ DE w0 w' a r x v d W S T S' T' := by
  have := do_docFar w h (fun n hn' => Nat.le_trans (marks_le S' n hn') (by simp)) hn (by rw [marks_len]; omega)
  rw [part_seg] at this
  have e1 : maxM T' = (sumP T').1 := by rw [sumP_eq T' ht]
  rw [e1] at this
  exact this
theorem de_docHoped (h : DE w0 w a r x v d W S T S' T') (hn : (S'.flatten ++ T').length ≤ 1000000) (hn2 : S'.length ≤ 900000) (ht : Pos T') :
    Calls Try.prog 32 #[.pointer (some ⟨r, 0, none⟩)] w fun e w' => e = .returned (clv (sumP T').2) ∧ DE w0 w' a r x v d W S T S' T' := by
  have := do_docHoped w h (fun n hn' => Nat.le_trans (marks_le S' n hn') (by simp)) hn (by rw [marks_len]; omega)
  rw [part_seg] at this
  have e1 : hopM T' (maxM T') = (sumP T').2 := by rw [sumP_eq T' ht]
  rw [e1] at this
  exact this
end
end Go.Proofs.Ytfhgmnlhmfnckaa
