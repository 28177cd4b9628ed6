/-
  Rows of twigs that come in; closed facts of the program that each law's proof asks.
-/
import Derived.Test.YtadkjjpopmiceaaRowsQ
import Derived.Test.YtadkjjpopmiceaaTrI
namespace Go.Proofs.Ytadkjjpopmiceaa
open Go.RowKit Go.ChangeShapes Go.WideShapes Go.ChangeAt

theorem Try.own : ownKnob Try.prog.godebug = none := by kernel_rfl
theorem Try.laidOut : laidOutB Try.prog = true := by kernel_rfl
theorem rows_len {H : Type} {enc : TypeId × Value → H} {P : Program} {w : World} {base : Nat} {spare : Nat → Bool} {held : Bool} {t e : TypeId} {v : Value} {fuel : Nat} {x : DataW H × List MemPlace} (ht : P.underlying t = some (.slice e))
    (h : DataW.trod enc P w base spare held fuel t [v] = some x) {B : Nat} (hB : ∀ m ∈ x.1.weights P t, m ≤ B) : ∀ ao len cap, v = .slice ao len cap → len * P.bytesOf e ≤ B := by
  rintro ao len cap rfl
  rcases Go.Deep.open_slice ht h with ⟨hcs, _⟩ | ⟨a, len', cap', m, q, D, Pl, hcs, _, hl, hm, hmm, hx, _⟩
  · simp at hcs
    obtain ⟨_, rfl, _⟩ := hcs
    omega
  · simp at hcs
    obtain ⟨rfl, rfl, rfl⟩ := hcs
    have hw := weights_slice (H := H) ht ((List.range len).map D) ((List.range (m - len)).map fun j => D (len + j))
    have := hB _ (by rw [hx]; exact hw)
    simp only [List.length_map, List.length_range] at this
    have h3 : len * P.bytesOf e ≤ (len + (m - len)) * P.bytesOf e := Nat.mul_le_mul_right _ (by omega)
    omega
theorem wf_le {n : Int} (h : (Lit.int .i64 n).wf = true) : -9223372036854775808 ≤ n ∧ n ≤ 9223372036854775807 := by
  simp [Lit.wf, IntKind.min, IntKind.max, IntKind.signed, IntKind.bits] at h
  omega
theorem Try.flatTwig : flatOf Try.prog 5 32 = some [.int .i64, .int .i64, .int .i64, .int .i64, .int .i64] := by kernel_rfl
theorem Try.cellsTwig : Try.prog.cellsOf 32 = 5 := by kernel_rfl
theorem Try.bytesTwig : Try.prog.bytesOf 32 = 40 := by kernel_rfl
theorem ok_twig {H : Type} {enc : TypeId × Value → H} {w : World} {fuel : Nat} {cs : List Value} {y : DataW H × List MemPlace} (h : DataW.trod enc Try.prog w 0 (fun _ => true) true fuel 32 cs = some y) : ∃ t, cs = twc t ∧ twOk t := by
  obtain ⟨hl, hk⟩ := open_flat _ _ _ _ _ _ Try.flatTwig h
  match cs, hl with
  | [v0, v1, v2, v3, v4], _ =>
    obtain ⟨a, rfl, _⟩ := hk 0 _ _ rfl rfl
    obtain ⟨b, rfl, _⟩ := hk 1 _ _ rfl rfl
    obtain ⟨c, rfl, _⟩ := hk 2 _ _ rfl rfl
    obtain ⟨d, rfl, hd⟩ := hk 3 _ _ rfl rfl
    obtain ⟨e, rfl, he⟩ := hk 4 _ _ rfl rfl
    exact ⟨⟨a, b, c, d, e⟩, rfl, (wf_le hd).2, (wf_le he).2⟩
theorem all_map {α : Type} {f : α → List Value} {Q : α → Prop} : ∀ es : List (List Value), (∀ c ∈ es, ∃ d, c = f d ∧ Q d) → ∃ l : List α, es = l.map f ∧ ∀ q ∈ l, Q q := by
  intro es
  induction es with
  | nil => intro _; exact ⟨[], rfl, fun q hq => by simp at hq⟩
  | cons c r ih =>
    intro h
    obtain ⟨l, rfl, hl⟩ := ih (fun c hc => h c (by simp [hc]))
    obtain ⟨q, rfl, hq⟩ := h c (by simp)
    refine ⟨q :: l, rfl, fun q' hq' => ?_⟩
    rcases List.mem_cons.1 hq' with rfl | h
    · exact hq
    · exact hl q' h
abbrev QTw (c : List Value) : Prop := ∃ t, c = twc t ∧ twOk t
/-- twigs, inside of something that came in. -/
theorem open_twigsQ {H : Type} {enc : TypeId × Value → H} {w : World} {fuel : Nat} {v : Value} {x : DataW H × List MemPlace}
    (h : DataW.trod enc Try.prog w 0 (fun _ => true) true fuel 22 [v] = some x) (hB : ∀ m ∈ x.1.weights Try.prog 22, m ≤ reachBytes) : ∃ t, TwAt w v t ∧ (∀ x ∈ t, twOk x) ∧ t.length ≤ 140737488355328 := by
  obtain ⟨es, hr, ho⟩ := open_rowsQ (Q := QTw) Try.underlying22 Try.cellsTwig (by omega) (fun _ _ _ h1 _ => ok_twig h1) h hB
  obtain ⟨l, rfl, hok⟩ := all_map es ho
  refine ⟨l, hr, hok, ?_⟩
  obtain ⟨ao, cap, e⟩ := TwAt.val hr
  have := rows_len Try.underlying22 h hB _ _ _ e
  rw [Try.bytesTwig] at this
  simp only [reachBytes] at this
  omega
set_option maxRecDepth 100000 in
/-- an argument that is a row of twigs. -/
theorem open_twigs {H : Type} {enc : TypeId × Value → H} {W : World} {base : Nat} {v : Value} {d : DataW H} {p : List MemPlace}
    (hval : Value.okWide Try.prog W .any base 22 v) (h : DataW.Trod enc Try.prog W 0 (fun _ => true) true 22 v d p) (hB : ∀ m ∈ d.weights Try.prog 22, m ≤ reachBytes) : ∃ t, TwAt W v t ∧ (∀ x ∈ t, twOk x) ∧ t.length ≤ 140737488355328 := by
  obtain ⟨a0, len, cap, rfl⟩ := okWide_slice Try.underlying22 hval
  obtain ⟨fuel, hf⟩ := h
  simp only [Value.cells] at hf
  exact open_twigsQ hf hB
end Go.Proofs.Ytadkjjpopmiceaa
