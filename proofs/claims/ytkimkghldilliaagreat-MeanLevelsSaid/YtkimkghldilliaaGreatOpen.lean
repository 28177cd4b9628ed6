/-
  Arguments opened: cells of flat types (structs, arrays of scalars), slices of such.
-/
import Derived.Test.YtkimkghldilliaaGreatLib
import Derived.Deep.Slices
namespace Go.Proofs.YtkimkghldilliaaGreat
open Go.ChangeShapes Go.WideShapes Go.ChangeAt Go.RowKit

/-- a cell: a number, a truth, or one of a type of one cell that is read on its own. -/
inductive Sc where
  | int (k : IntKind)
  | bool
  | one (t : TypeId)

def flatFields (P : Program) (g : TypeId → Option (List Sc)) : List Field → Nat → Option (List Sc)
  | [], _ => some []
  | f :: r, off => if f.offset = off then (g f.type).bind fun l => if l.length = P.cellsOf f.type then (flatFields P g r (off + l.length)).map (l ++ ·) else none else none
/-- the cells of a flat type. -/
def flatOf (P : Program) : Nat → TypeId → Option (List Sc)
  | 0, _ => none
  | n + 1, t => match P.underlying t with
    | some (.int k) => some [.int k]
    | some .bool => some [.bool]
    | some (.slice _) => some [.one t]
    | some .string => some [.one t]
    | some (.struct fs) => (flatFields P (flatOf P n) fs.toList 0).bind fun l => if l.length = P.cellsOf t then some l else none
    | some (.array m e) => (flatOf P n e).bind fun l => if l.length = P.cellsOf e ∧ m * P.cellsOf e = P.cellsOf t then some (List.replicate m l).flatten else none
    | _ => none

section
variable {H : Type} {enc : TypeId × Value → H} {P : Program} {w : World} {base : Nat} {spare : Nat → Bool} {held : Bool}

/-- what a cell holds. -/
def OkSc (enc : TypeId × Value → H) (P : Program) (w : World) (base : Nat) (spare : Nat → Bool) (held : Bool) : Sc → Value → Prop
  | .int k, v => ∃ n, v = .int k n ∧ (Lit.int k n).wf = true
  | .bool, v => ∃ b, v = .bool b
  | .one t, v => ∃ fuel y, DataW.trod enc P w base spare held fuel t [v] = some y
def OkAll (enc : TypeId × Value → H) (P : Program) (w : World) (base : Nat) (spare : Nat → Bool) (held : Bool) (ks : List Sc) (cs : List Value) : Prop :=
  cs.length = ks.length ∧ ∀ (i : Nat) (k : Sc) (v : Value), ks[i]? = some k → cs[i]? = some v → OkSc enc P w base spare held k v

theorem OkAll.nil : OkAll enc P w base spare held [] [] := ⟨rfl, fun i k v h => by simp at h⟩
theorem OkAll.append {k1 k2 : List Sc} {c1 c2 : List Value} (h1 : OkAll enc P w base spare held k1 c1) (h2 : OkAll enc P w base spare held k2 c2) : OkAll enc P w base spare held (k1 ++ k2) (c1 ++ c2) := by
  refine ⟨by simp [h1.1, h2.1], fun i k v hk hv => ?_⟩
  by_cases hi : i < k1.length
  · rw [List.getElem?_append_left hi] at hk
    rw [List.getElem?_append_left (by rw [h1.1]; exact hi)] at hv
    exact h1.2 i k v hk hv
  · rw [List.getElem?_append_right (by omega)] at hk
    rw [List.getElem?_append_right (by rw [h1.1]; omega), h1.1] at hv
    exact h2.2 _ k v hk hv

theorem flat_fields {g : TypeId → Option (List Sc)} {n : Nat} {cs : List Value} (hg : ∀ t l fuel c x, g t = some l → DataW.trod enc P w base spare held fuel t c = some x → OkAll enc P w base spare held l c) :
    ∀ (fs : List Field) (off : Nat) (ls : List Sc), flatFields P g fs off = some ls → off + ls.length ≤ cs.length →
      (∀ (i : Nat) (f : Field), fs[i]? = some f → ∃ x, DataW.trod enc P w base spare held n f.type ((cs.drop f.offset).take (P.cellsOf f.type)) = some x) → OkAll enc P w base spare held ls ((cs.drop off).take ls.length)
  | [], off, ls, h, _, _ => by
    simp only [flatFields, Option.some.injEq] at h
    subst h
    simpa using OkAll.nil
  | f :: r, off, ls, h, hl, hx => by
    simp only [flatFields] at h
    split at h
    · rename_i ho
      rw [Option.bind_eq_some_iff] at h
      obtain ⟨l, hgl, h⟩ := h
      split at h
      · rename_i hc
        rw [Option.map_eq_some_iff] at h
        obtain ⟨l2, h2, rfl⟩ := h
        obtain ⟨x, hx0⟩ := hx 0 f rfl
        have h0 := hg _ _ _ _ _ hgl hx0
        rw [ho, ← hc] at h0
        simp only [List.length_append] at hl
        have ih := flat_fields hg r (off + l.length) l2 h2 (by omega) (fun i f' hf => hx (i + 1) f' (by simpa using hf))
        have e : (cs.drop off).take (l ++ l2).length = (cs.drop off).take l.length ++ (cs.drop (off + l.length)).take l2.length := by
          rw [List.length_append, List.take_add, List.drop_drop]
        rw [e]
        exact h0.append ih
      · cases h
    · cases h

theorem flat_rep {cs : List Value} {l : List Sc} {c : Nat} (hc : l.length = c) : ∀ m, (∀ i, i < m → OkAll enc P w base spare held l ((cs.drop (i * c)).take c)) → OkAll enc P w base spare held (List.replicate m l).flatten (cs.take (m * c))
  | 0, _ => by simpa using OkAll.nil
  | m + 1, h => by
    have ih := flat_rep hc m (fun i hi => h i (by omega))
    have h1 := h m (by omega)
    rw [List.replicate_succ', List.flatten_append, Nat.add_mul, Nat.one_mul, List.take_add]
    simpa using ih.append h1

/-- the cells of a flat type, opened. -/
theorem open_flat : ∀ (n : Nat) (t : TypeId) (ks : List Sc) (fuel : Nat) (cs : List Value) (x : DataW H × List MemPlace), flatOf P n t = some ks → DataW.trod enc P w base spare held fuel t cs = some x → OkAll enc P w base spare held ks cs
  | 0, _, _, _, _, _, h, _ => by simp [flatOf] at h
  | n + 1, t, ks, fuel, cs, x, h, ht => by
    simp only [flatOf] at h
    split at h
    · rename_i k hu
      obtain ⟨z, rfl, _, hwf⟩ := DataW.trod_int hu ht
      simp only [Option.some.injEq] at h; subst h
      refine ⟨rfl, fun i k' v hk hv => ?_⟩
      obtain rfl : i = 0 := by have := (List.getElem?_eq_some_iff.1 hk).1; simpa using this
      simp only [List.getElem?_cons_zero, Option.some.injEq] at hk hv
      subst hk; subst hv
      exact ⟨z, rfl, hwf⟩
    · rename_i hu
      obtain ⟨z, rfl, _⟩ := DataW.trod_bool hu ht
      simp only [Option.some.injEq] at h; subst h
      refine ⟨rfl, fun i k' v hk hv => ?_⟩
      obtain rfl : i = 0 := by have := (List.getElem?_eq_some_iff.1 hk).1; simpa using this
      simp only [List.getElem?_cons_zero, Option.some.injEq] at hk hv
      subst hk; subst hv
      exact ⟨z, rfl⟩
    · rename_i e hu
      have hc : ∃ v, cs = [v] := by
        rcases DataW.trod_slice hu ht with ⟨rfl, _⟩ | ⟨a, len, cap, _, _, _, _, rfl, _⟩
        · exact ⟨_, rfl⟩
        · exact ⟨_, rfl⟩
      obtain ⟨v0, rfl⟩ := hc
      simp only [Option.some.injEq] at h; subst h
      refine ⟨rfl, fun i k' v hk hv => ?_⟩
      obtain rfl : i = 0 := by have := (List.getElem?_eq_some_iff.1 hk).1; simpa using this
      simp only [List.getElem?_cons_zero, Option.some.injEq] at hk hv
      subst hk; subst hv
      exact ⟨fuel, x, ht⟩
    · rename_i hu
      obtain ⟨s, rfl, _⟩ := DataW.trod_string hu ht
      simp only [Option.some.injEq] at h; subst h
      refine ⟨rfl, fun i k' v hk hv => ?_⟩
      obtain rfl : i = 0 := by have := (List.getElem?_eq_some_iff.1 hk).1; simpa using this
      simp only [List.getElem?_cons_zero, Option.some.injEq] at hk hv
      subst hk; subst hv
      exact ⟨fuel, x, ht⟩
    · rename_i fs hu
      obtain ⟨xs, m, _, _, hl, hxl, hf⟩ := DataW.trod_struct hu ht
      rw [Option.bind_eq_some_iff] at h
      obtain ⟨l, h1, h2⟩ := h
      split at h2
      · rename_i hc
        simp only [Option.some.injEq] at h2; subst h2
        have := flat_fields (cs := cs) (n := m) (fun t l fuel c x hg hc => open_flat n t l fuel c x hg hc) fs.toList 0 l h1 (by omega) (fun i f hi => by
          have hi' : fs[i]? = some f := by simpa using hi
          have := hf i f hi'
          have hil : i < xs.length := by have := (Array.getElem?_eq_some_iff.1 hi').1; omega
          exact ⟨xs[i], this.trans (List.getElem?_eq_getElem hil)⟩)
        rw [List.drop_zero, List.take_of_length_le (by omega)] at this
        exact this
      · cases h2
    · rename_i m e hu
      obtain ⟨xs, q, _, _, hl, hxl, hf⟩ := DataW.trod_array hu ht
      rw [Option.bind_eq_some_iff] at h
      obtain ⟨l, h1, h2⟩ := h
      split at h2
      · rename_i hc
        simp only [Option.some.injEq] at h2; subst h2
        have := flat_rep (enc := enc) (P := P) (w := w) (base := base) (spare := spare) (held := held) (cs := cs) hc.1 m (fun i hi => open_flat n e l q _ (xs[i]'(by omega)) h1 ((hf i hi).trans (List.getElem?_eq_getElem (by omega))))
        rw [List.take_of_length_le (by omega)] at this
        exact this
      · cases h2
    · cases h

/-- a slice of elements of C cells each. -/
def RowsAt (w : World) (C : Nat) (v : Value) (es : List (List Value)) : Prop :=
  ∃ ao b off cap, v = .slice ao es.length cap ∧ es.length ≤ cap ∧ cap ≤ maxLen ∧ (ao = none → es.length = 0 ∧ cap = 0) ∧ (0 < es.length → ao = some ⟨b, off, none⟩ ∧ b < w.heap.size) ∧ (∀ e ∈ es, e.length = C) ∧
    ∀ i (h : i < es.length) j, j < C → w.cell? ⟨b, off + i * C + j, none⟩ = es[i][j]?
theorem RowsAt.later {w w' : World} {C : Nat} {v : Value} {es : List (List Value)} (h : RowsAt w C v es) (hb : Below w.heap.size w w') : RowsAt w' C v es := by
  obtain ⟨ao, b, off, cap, rfl, hl, hm, hn, ha, he, hc⟩ := h
  exact ⟨ao, b, off, cap, rfl, hl, hm, hn, fun h => ⟨(ha h).1, Nat.lt_of_lt_of_le (ha h).2 hb.size⟩, he, fun i hi j hj => (hb.cell (p := ⟨b, _, none⟩) (ha (by omega)).2).trans (hc i hi j hj)⟩
theorem add_none (b off j : Nat) : (⟨b, off, none⟩ : Addr).add j = ⟨b, off + j, none⟩ := by
  unfold Addr.add; split
  · simp_all
  · rfl

/-- an argument that is a slice of flat elements. -/
theorem open_rows {n : Nat} {t e : TypeId} {C : Nat} {ks : List Sc} (ht : P.underlying t = some (.slice e)) (he : flatOf P n e = some ks) (hC : P.cellsOf e = C) (hpos : 0 < C) {v : Value} {fuel : Nat} {x : DataW H × List MemPlace}
    (h : DataW.trod enc P w base spare held fuel t [v] = some x) : ∃ es : List (List Value), RowsAt w C v es ∧ ∀ c ∈ es, OkAll enc P w base spare held ks c := by
  rcases Go.Deep.open_slice ht h with ⟨hcs, _⟩ | ⟨a, len, cap, m, q, D, Pl, hcs, hb, hl, hm, hmm, hx, hi⟩
  · simp only [List.cons.injEq, and_true] at hcs
    subst hcs
    exact ⟨[], ⟨none, 0, 0, 0, rfl, Nat.le_refl _, by unfold maxLen; omega, fun _ => ⟨rfl, rfl⟩, fun h => by simp at h, fun e he => by simp at he, fun i hi => by simp at hi⟩, fun c hc => by simp at hc⟩
  · simp only [List.cons.injEq, and_true] at hcs
    subst hcs
    rw [hC] at hi
    have hlm : len ≤ m := by rw [hmm]; split <;> omega
    have hall : ∀ i, i < len → ∃ c : List Value, OkAll enc P w base spare held ks c ∧ c.length = C ∧ ∀ j, j < C → w.cell? (a.add (i * C + j)) = c[j]? := by
      intro i hil
      obtain ⟨cs', h1, h2⟩ := hi i (by omega)
      obtain ⟨_, hcl, hat⟩ := World.cells?_some h1
      refine ⟨cs', open_flat n e ks q cs' _ he h2, hcl, fun j hj => ?_⟩
      rw [← Go.Deep.add_add]
      exact hat j hj
    obtain ⟨f, hf⟩ := Classical.axiomOfChoice (r := fun (i : Fin len) (c : List Value) => OkAll enc P w base spare held ks c ∧ c.length = C ∧ ∀ j, j < C → w.cell? (a.add (i * C + j)) = c[j]?) (fun i => hall i i.2)
    have hspot : 0 < len → a.spot = none := by
      intro h0
      have h1 := (hf ⟨0, h0⟩).2.2 0 hpos
      have h2 := (hf ⟨0, h0⟩).2.1
      rw [List.getElem?_eq_getElem (by omega)] at h1
      cases hs : a.spot with
      | none => rfl
      | some s =>
        simp [Addr.add, World.cell?, hs] at h1
        split at h1 <;> simp at h1
    have hal : 0 < len → a = ⟨a.block, a.off, none⟩ := by
      intro h0
      obtain ⟨b, off, sp⟩ := a
      have := hspot h0
      simp only at this
      subst this
      rfl
    refine ⟨List.ofFn f, ⟨some a, a.block, a.off, cap, by simp, by simpa using hl, hm, (fun h => by cases h), fun h0 => ?_, fun e he => ?_, fun i hi j hj => ?_⟩, fun c hc => ?_⟩
    · have h0' : 0 < len := by simpa using h0
      refine ⟨by rw [← hal h0'], ?_⟩
      have h1 := (hf ⟨0, h0'⟩).2.2 0 hpos
      have h2 := (hf ⟨0, h0'⟩).2.1
      rw [List.getElem?_eq_getElem (by omega), hal h0', add_none] at h1
      exact World.block_lt_of_cell? (a := ⟨a.block, _, none⟩) _ h1
    · obtain ⟨i, rfl⟩ := List.mem_ofFn.1 he
      exact (hf i).2.1
    · have hil : i < len := by simpa using hi
      have h1 := (hf ⟨i, hil⟩).2.2 j hj
      rw [hal (by omega), add_none] at h1
      simp only [List.getElem_ofFn]
      rw [← h1, Nat.add_assoc]
    · obtain ⟨i, rfl⟩ := List.mem_ofFn.1 hc
      exact (hf i).1
end
end Go.Proofs.YtkimkghldilliaaGreat
