/-
  Chapter 26: pairs and answers that come in.
-/
import Derived.Test.YtebgleehmgmfbaaRowsQ
import Derived.Test.YtebgleehmgmfbaaSiz
import Derived.Test.YtebgleehmgmfbaaOwn
namespace Go.Proofs.Ytebgleehmgmfbaa
open Go.RowKit Go.ChangeShapes Go.WideShapes Go.ChangeAt

theorem rows_len {H : Type} {enc : TypeId × Value → H} {P : Program} {w : World} {base : Nat} {spare : Nat → Bool} {held : Bool} {t e : TypeId} {v : Value} {fuel : Nat} {x : DataW H × List MemPlace} (ht : P.underlying t = some (.slice e))
    (h : DataW.trod enc P w base spare held fuel t [v] = some x) {B : Nat} (hB : ∀ m ∈ x.1.weights P t, m ≤ B) : ∀ ao len cap, v = .slice ao len cap → len * P.bytesOf e ≤ B := by
  rintro ao len cap rfl
  rcases Go.Deep.open_slice ht h with ⟨hcs, _⟩ | ⟨a, len', cap', m, q, D, Pl, hcs, _, hl, hm, hmm, hx, _⟩
  · simp at hcs
    obtain ⟨_, rfl, _⟩ := hcs
    omega
  · simp at hcs
    obtain ⟨rfl, rfl, rfl⟩ := hcs
    have hw := weights_slice (H := H) ht ((List.range len).map D) ((List.range (m - len)).map fun j => D (len + j))
    have := hB _ (by rw [hx]; exact hw)
    simp only [List.length_map, List.length_range] at this
    have h3 : len * P.bytesOf e ≤ (len + (m - len)) * P.bytesOf e := Nat.mul_le_mul_right _ (by omega)
    omega

theorem Try.flatTwig : flatOf Try.prog 5 60 = some [.int .i64, .int .i64, .int .i64, .int .i64, .int .i64] := by kernel_rfl
theorem Try.cellsTwig : Try.prog.cellsOf 60 = 5 := by kernel_rfl
theorem Try.bytesTwig : Try.prog.bytesOf 60 = 40 := by kernel_rfl
theorem ok_twig {H : Type} {enc : TypeId × Value → H} {w : World} {fuel : Nat} {cs : List Value} {y : DataW H × List MemPlace} (h : DataW.trod enc Try.prog w 0 (fun _ => true) true fuel 60 cs = some y) : ∃ t, cs = twc t := by
  obtain ⟨hl, hk⟩ := open_flat _ _ _ _ _ _ Try.flatTwig h
  match cs, hl with
  | [v0, v1, v2, v3, v4], _ =>
    obtain ⟨a, rfl, _⟩ := hk 0 _ _ rfl rfl
    obtain ⟨b, rfl, _⟩ := hk 1 _ _ rfl rfl
    obtain ⟨c, rfl, _⟩ := hk 2 _ _ rfl rfl
    obtain ⟨d, rfl, _⟩ := hk 3 _ _ rfl rfl
    obtain ⟨e, rfl, _⟩ := hk 4 _ _ rfl rfl
    exact ⟨⟨a, b, c, d, e⟩, rfl⟩
theorem all_map {α : Type} {f : α → List Value} {Q : α → Prop} : ∀ es : List (List Value), (∀ c ∈ es, ∃ d, c = f d ∧ Q d) → ∃ l : List α, es = l.map f ∧ ∀ q ∈ l, Q q := by
  intro es
  induction es with
  | nil => intro _; exact ⟨[], rfl, fun q hq => by simp at hq⟩
  | cons c r ih =>
    intro h
    obtain ⟨l, rfl, hl⟩ := ih (fun c hc => h c (by simp [hc]))
    obtain ⟨q, rfl, hq⟩ := h c (by simp)
    refine ⟨q :: l, rfl, fun q' hq' => ?_⟩
    rcases List.mem_cons.1 hq' with rfl | h
    · exact hq
    · exact hl q' h
/-- twigs, inside of something that came in. -/
theorem open_twigsQ {H : Type} {enc : TypeId × Value → H} {w : World} {fuel : Nat} {v : Value} {x : DataW H × List MemPlace}
    (h : DataW.trod enc Try.prog w 0 (fun _ => true) true fuel 36 [v] = some x) (hB : ∀ m ∈ x.1.weights Try.prog 36, m ≤ reachBytes) : ∃ t, TwAt w v t ∧ t.length ≤ 140737488355328 := by
  obtain ⟨es, hr, ho⟩ := open_rowsQ (Q := fun c => ∃ t, c = twc t ∧ True) Try.underlying36 Try.cellsTwig (by omega) (fun _ _ _ h1 _ => by obtain ⟨t, ht⟩ := ok_twig h1; exact ⟨t, ht, trivial⟩) h hB
  obtain ⟨l, rfl, -⟩ := all_map es ho
  refine ⟨l, hr, ?_⟩
  obtain ⟨ao, cap, e⟩ := TwAt.val hr
  have := rows_len Try.underlying36 h hB _ _ _ e
  rw [Try.bytesTwig] at this
  simp only [reachBytes] at this
  omega

theorem Try.flatAnswer : flatOf Try.prog 5 53 = some [.bool, .int .i64, .int .i64, .one 36, .int .i64] := by kernel_rfl
theorem Try.cellsAnswer : Try.prog.cellsOf 53 = 5 := by kernel_rfl
theorem Try.answerFound : (match Try.prog.underlying 53 with | some (.struct fs) => (fs[0]?.map fun f => (f.type, f.offset)) | _ => none) = some (38, 0) := by kernel_rfl
theorem Try.foundTree : (match Try.prog.underlying 38 with | some (.struct fs) => (fs[3]?.map fun f => (f.type, f.offset)) | _ => none) = some (36, 3) := by kernel_rfl
theorem Try.cellsFound : Try.prog.cellsOf 38 = 4 := by kernel_rfl
theorem Try.cellsTwigs : Try.prog.cellsOf 36 = 1 := by kernel_rfl

theorem ok_answer {H : Type} {enc : TypeId × Value → H} {w : World} {fuel : Nat} {cs : List Value} {y : DataW H × List MemPlace}
    (h : DataW.trod enc Try.prog w 0 (fun _ => true) true fuel 53 cs = some y) (hB : ∀ m ∈ y.1.weights Try.prog 53, m ≤ reachBytes) : ∃ a : An, cs = anc a ∧ TwAt w a.v a.tree ∧ a.tree.length ≤ 140737488355328 := by
  obtain ⟨hl, hk⟩ := open_flat _ _ _ _ _ _ Try.flatAnswer h
  have hsz : ∃ v t, cs[3]? = some v ∧ TwAt w v t ∧ t.length ≤ 140737488355328 := by
    have hd := Try.answerFound
    split at hd
    · rename_i fs hu
      rw [Option.map_eq_some_iff] at hd
      obtain ⟨f, hf3, hft⟩ := hd
      simp only [Prod.mk.injEq] at hft
      obtain ⟨m, x, hx, hw⟩ := open_field hu 0 hf3 hft.1 h
      rw [hft.2, Try.cellsFound] at hx
      have hd2 := Try.foundTree
      split at hd2
      · rename_i fs2 hu2
        rw [Option.map_eq_some_iff] at hd2
        obtain ⟨f2, hf4, hft2⟩ := hd2
        simp only [Prod.mk.injEq] at hft2
        obtain ⟨m2, x2, hx2, hw2⟩ := open_field hu2 3 hf4 hft2.1 hx
        rw [hft2.2, Try.cellsTwigs] at hx2
        match cs, hl with
        | [v0, v1, v2, v3, v4], _ =>
          obtain ⟨t, h1, h2⟩ := open_twigsQ (v := v3) (by simpa using hx2) (fun k hk => hB k (hw k (hw2 k hk)))
          exact ⟨v3, t, rfl, h1, h2⟩
      · cases hd2
    · cases hd
  match cs, hl, hsz with
  | [v0, v1, v2, v3, v4], _, ⟨v, t, h1, h2, h3⟩ =>
    obtain ⟨b, rfl⟩ := hk 0 _ _ rfl rfl
    obtain ⟨en, rfl, _⟩ := hk 1 _ _ rfl rfl
    obtain ⟨fa, rfl, _⟩ := hk 2 _ _ rfl rfl
    obtain ⟨er, rfl, _⟩ := hk 4 _ _ rfl rfl
    simp only [List.getElem?_cons_succ, List.getElem?_cons_zero, Option.some.injEq] at h1
    subst h1
    exact ⟨⟨b, en, fa, t, v3, er⟩, rfl, h2, h3⟩

/-- an argument that is a row of answers. -/
theorem open_answers {H : Type} {enc : TypeId × Value → H} {W : World} {base : Nat} {v : Value} {d : DataW H} {p : List MemPlace}
    (hval : Value.okWide Try.prog W .any base 25 v) (h : DataW.Trod enc Try.prog W 0 (fun _ => true) true 25 v d p) (hB : ∀ m ∈ d.weights Try.prog 25, m ≤ reachBytes) : ∃ l : List An, AnsAt W v l ∧ ∀ k, (atA l k).tree.length ≤ 140737488355328 := by
  obtain ⟨a0, len, cap, rfl⟩ := okWide_slice Try.underlying25 hval
  obtain ⟨fuel, hf⟩ := h
  simp only [Value.cells] at hf
  obtain ⟨es, hr, ho⟩ := open_rowsQ (Q := fun c => ∃ a : An, c = anc a ∧ (TwAt W a.v a.tree ∧ a.tree.length ≤ 140737488355328)) Try.underlying25 Try.cellsAnswer (by omega) (fun _ _ _ h1 h2 => ok_answer h1 h2) hf hB
  obtain ⟨l, rfl, hl⟩ := all_map es ho
  refine ⟨l, ⟨hr, fun a ha => (hl a ha).1⟩, fun k => ?_⟩
  by_cases hk : k < l.length
  · rw [atA_lt hk]; exact (hl _ (List.getElem_mem hk)).2
  · rw [atA_ge hk]; simp [An.none]

theorem Try.flatPair26 : flatOf Try.prog 5 24 = some [.int .i64, .int .i64] := by kernel_rfl
theorem Try.cellsPair26 : Try.prog.cellsOf 24 = 2 := by kernel_rfl
theorem ok_pair {H : Type} {enc : TypeId × Value → H} {w : World} {fuel : Nat} {cs : List Value} {y : DataW H × List MemPlace} (h : DataW.trod enc Try.prog w 0 (fun _ => true) true fuel 24 cs = some y) : ∃ p : Pr, cs = prc p ∧ W64 p := by
  obtain ⟨hl, hk⟩ := open_flat _ _ _ _ _ _ Try.flatPair26 h
  match cs, hl with
  | [v0, v1], _ =>
    obtain ⟨a, rfl, ha⟩ := hk 0 _ _ rfl rfl
    obtain ⟨b, rfl, hb⟩ := hk 1 _ _ rfl rfl
    exact ⟨(a, b), rfl, ha, hb⟩
/-- an argument that is a row of pairs. -/
theorem open_pairs {H : Type} {enc : TypeId × Value → H} {W : World} {base : Nat} {v : Value} {d : DataW H} {p : List MemPlace}
    (hval : Value.okWide Try.prog W .any base 22 v) (h : DataW.Trod enc Try.prog W 0 (fun _ => true) true 22 v d p) (hB : ∀ m ∈ d.weights Try.prog 22, m ≤ reachBytes) : ∃ l : List Pr, PrsAt W v l ∧ ∀ p ∈ l, W64 p := by
  obtain ⟨a0, len, cap, rfl⟩ := okWide_slice Try.underlying22 hval
  obtain ⟨fuel, hf⟩ := h
  simp only [Value.cells] at hf
  obtain ⟨es, hr, ho⟩ := open_rowsQ (Q := fun c => ∃ p : Pr, c = prc p ∧ W64 p) Try.underlying22 Try.cellsPair26 (by omega) (fun _ _ _ h1 _ => ok_pair h1) hf hB
  obtain ⟨l, rfl, hl⟩ := all_map es ho
  exact ⟨l, hr, hl⟩
/-- an argument that is a pair. -/
theorem open_pair {H : Type} {enc : TypeId × Value → H} {W : World} {base : Nat} {v : Value} {d : DataW H} {p : List MemPlace}
    (hval : Value.okWide Try.prog W .any base 24 v) (h : DataW.Trod enc Try.prog W 0 (fun _ => true) true 24 v d p) : ∃ q : Pr, v = .agg #[.int .i64 q.1, .int .i64 q.2] ∧ W64 q := by
  have hu : Try.prog.underlying 24 = some (.struct (Try.prog.fieldsOf 24)) := by kernel_rfl
  obtain ⟨cs, rfl, hcs⟩ := okWide_struct hu hval
  obtain ⟨fuel, hf⟩ := h
  simp only [Value.cells] at hf
  obtain ⟨q, hq, hw⟩ := ok_pair hf
  refine ⟨q, ?_, hw⟩
  have : cs = (prc q).toArray := by rw [← hq]
  rw [this]
  rfl
end Go.Proofs.Ytebgleehmgmfbaa
