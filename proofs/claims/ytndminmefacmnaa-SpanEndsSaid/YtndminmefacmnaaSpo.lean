/-
  Spans that come in; closed facts of the program that each law's proof asks.
-/
import Derived.Test.YtndminmefacmnaaRowsQ
import Derived.Test.YtndminmefacmnaaSnP
namespace Go.Proofs.Ytndminmefacmnaa
open Go.RowKit Go.ChangeShapes Go.WideShapes Go.ChangeAt

theorem Try.own : ownKnob Try.prog.godebug = none := by kernel_rfl
theorem Try.laidOut : laidOutB Try.prog = true := by kernel_rfl
theorem rows_len {H : Type} {enc : TypeId × Value → H} {P : Program} {w : World} {base : Nat} {spare : Nat → Bool} {held : Bool} {t e : TypeId} {v : Value} {fuel : Nat} {x : DataW H × List MemPlace} (ht : P.underlying t = some (.slice e))
    (h : DataW.trod enc P w base spare held fuel t [v] = some x) {B : Nat} (hB : ∀ m ∈ x.1.weights P t, m ≤ B) : ∀ ao len cap, v = .slice ao len cap → len * P.bytesOf e ≤ B := by
  rintro ao len cap rfl
  rcases Go.Deep.open_slice ht h with ⟨hcs, _⟩ | ⟨a, len', cap', m, q, D, Pl, hcs, _, hl, hm, hmm, hx, _⟩
  · simp at hcs
    obtain ⟨_, rfl, _⟩ := hcs
    omega
  · simp at hcs
    obtain ⟨rfl, rfl, rfl⟩ := hcs
    have hw := weights_slice (H := H) ht ((List.range len).map D) ((List.range (m - len)).map fun j => D (len + j))
    have := hB _ (by rw [hx]; exact hw)
    simp only [List.length_map, List.length_range] at this
    have h3 : len * P.bytesOf e ≤ (len + (m - len)) * P.bytesOf e := Nat.mul_le_mul_right _ (by omega)
    omega
theorem wf_le {n : Int} (h : (Lit.int .i64 n).wf = true) : -9223372036854775808 ≤ n ∧ n ≤ 9223372036854775807 := by
  simp [Lit.wf, IntKind.min, IntKind.max, IntKind.signed, IntKind.bits] at h
  omega
theorem all_map {α : Type} {f : α → List Value} {Q : α → Prop} : ∀ es : List (List Value), (∀ c ∈ es, ∃ d, c = f d ∧ Q d) → ∃ l : List α, es = l.map f ∧ ∀ q ∈ l, Q q := by
  intro es
  induction es with
  | nil => intro _; exact ⟨[], rfl, fun q hq => by simp at hq⟩
  | cons c r ih =>
    intro h
    obtain ⟨l, rfl, hl⟩ := ih (fun c hc => h c (by simp [hc]))
    obtain ⟨q, rfl, hq⟩ := h c (by simp)
    refine ⟨q :: l, rfl, fun q' hq' => ?_⟩
    rcases List.mem_cons.1 hq' with rfl | h
    · exact hq
    · exact hl q' h
theorem Try.cells5 : Try.prog.cellsOf 5 = 1 := by kernel_rfl
theorem Try.flatSpan : flatOf Try.prog 5 23 = some [.int .i64, .int .i64] := by kernel_rfl
theorem Try.cellsSpan : Try.prog.cellsOf 23 = 2 := by kernel_rfl
theorem Try.bytesSpan : Try.prog.bytesOf 23 = 16 := by kernel_rfl
/-- the numbers of a span are such as a number can be. -/
def SgW (s : Sg) : Prop := (-9223372036854775808 ≤ s.fr ∧ s.fr ≤ 9223372036854775807) ∧ -9223372036854775808 ≤ s.to ∧ s.to ≤ 9223372036854775807
theorem ok_span {H : Type} {enc : TypeId × Value → H} {w : World} {fuel : Nat} {cs : List Value} {y : DataW H × List MemPlace} (h : DataW.trod enc Try.prog w 0 (fun _ => true) true fuel 23 cs = some y) : ∃ s : Sg, cs = sgc s ∧ SgW s := by
  obtain ⟨hl, hk⟩ := open_flat _ _ _ _ _ _ Try.flatSpan h
  match cs, hl with
  | [v0, v1], _ =>
    obtain ⟨a, rfl, ha⟩ := hk 0 _ _ rfl rfl
    obtain ⟨b, rfl, hb⟩ := hk 1 _ _ rfl rfl
    exact ⟨⟨a, b⟩, rfl, wf_le ha, wf_le hb⟩
/-- an argument that is a span. -/
theorem open_span {H : Type} {enc : TypeId × Value → H} {W : World} {base : Nat} {v : Value} {d : DataW H} {p : List MemPlace}
    (hval : Value.okWide Try.prog W .any base 23 v) (h : DataW.Trod enc Try.prog W 0 (fun _ => true) true 23 v d p) : ∃ s : Sg, v = sgv s ∧ SgW s := by
  have hu : Try.prog.underlying 23 = some (.struct (Try.prog.fieldsOf 23)) := by kernel_rfl
  obtain ⟨cs, rfl, hcs⟩ := okWide_struct hu hval
  obtain ⟨fuel, hf⟩ := h
  simp only [Value.cells] at hf
  obtain ⟨s, hs, hw⟩ := ok_span hf
  refine ⟨s, ?_, hw⟩
  have : cs = (sgc s).toArray := by rw [← hs]
  rw [this]
  rfl
set_option maxRecDepth 100000 in
/-- an argument that is spans. -/
theorem open_spans {H : Type} {enc : TypeId × Value → H} {W : World} {base : Nat} {v : Value} {d : DataW H} {p : List MemPlace}
    (hval : Value.okWide Try.prog W .any base 24 v) (h : DataW.Trod enc Try.prog W 0 (fun _ => true) true 24 v d p) (hB : ∀ m ∈ d.weights Try.prog 24, m ≤ reachBytes) : ∃ S, SgsAt W v S ∧ (∀ s ∈ S, SgW s) ∧ S.length ≤ 140737488355328 := by
  obtain ⟨a0, len, cap, rfl⟩ := okWide_slice Try.underlying24 hval
  obtain ⟨fuel, hf⟩ := h
  simp only [Value.cells] at hf
  obtain ⟨es, hr, ho⟩ := open_rowsQ (Q := fun c => ∃ s : Sg, c = sgc s ∧ SgW s) Try.underlying24 Try.cellsSpan (by omega) (fun _ _ _ h1 _ => ok_span h1) hf hB
  obtain ⟨S, rfl, hok⟩ := all_map es ho
  refine ⟨S, hr, hok, ?_⟩
  have hl : len = S.length := by
    obtain ⟨ao, b, off, cap', he, -⟩ := hr
    simp only [Value.slice.injEq, List.length_map] at he
    exact he.2.1
  have := rows_len Try.underlying24 hf hB _ _ _ rfl
  rw [Try.bytesSpan] at this
  simp only [reachBytes] at this
  omega
end Go.Proofs.Ytndminmefacmnaa
