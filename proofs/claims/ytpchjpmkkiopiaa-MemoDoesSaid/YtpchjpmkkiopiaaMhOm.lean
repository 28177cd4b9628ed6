import Derived.Test.YtpchjpmkkiopiaaMmOm
import Derived.Test.YtpchjpmkkiopiaaMhGm
namespace Go.Proofs.Ytpchjpmkkiopiaa
open Go.RowKit Go.ChangeShapes Go.WideShapes Go.ChangeAt

theorem Try.flatTwigM : flatOf Try.prog 5 122 = some [.int .i64, .int .i64, .int .i64, .int .i64, .int .i64] := by kernel_rfl
theorem Try.cellsTwigM : Try.prog.cellsOf 122 = 5 := by kernel_rfl
theorem Try.bytesTwigM : Try.prog.bytesOf 122 = 40 := by kernel_rfl
theorem Try.flatIntM : flatOf Try.prog 5 3 = some [.int .i64] := by kernel_rfl
theorem Try.cellsIntM : Try.prog.cellsOf 3 = 1 := by kernel_rfl
theorem Try.bytesIntM : Try.prog.bytesOf 3 = 8 := by kernel_rfl
theorem ok_twigM {H : Type} {enc : TypeId × Value → H} {w : World} {fuel : Nat} {cs : List Value} {y : DataW H × List MemPlace} (h : DataW.trod enc Try.prog w 0 (fun _ => true) true fuel 122 cs = some y) : ∃ t, cs = twc t := by
  obtain ⟨hl, hk⟩ := open_flat _ _ _ _ _ _ Try.flatTwigM h
  match cs, hl with
  | [v0, v1, v2, v3, v4], _ =>
    obtain ⟨a, rfl, _⟩ := hk 0 _ _ rfl rfl
    obtain ⟨b, rfl, _⟩ := hk 1 _ _ rfl rfl
    obtain ⟨c, rfl, _⟩ := hk 2 _ _ rfl rfl
    obtain ⟨d, rfl, _⟩ := hk 3 _ _ rfl rfl
    obtain ⟨e, rfl, _⟩ := hk 4 _ _ rfl rfl
    exact ⟨⟨a, b, c, d, e⟩, rfl⟩
theorem ok_intM {H : Type} {enc : TypeId × Value → H} {w : World} {fuel : Nat} {cs : List Value} {y : DataW H × List MemPlace} (h : DataW.trod enc Try.prog w 0 (fun _ => true) true fuel 3 cs = some y) : ∃ z : Int, cs = [.int .i64 z] := by
  obtain ⟨hl, hk⟩ := open_flat _ _ _ _ _ _ Try.flatIntM h
  match cs, hl with
  | [v0], _ =>
    obtain ⟨a, rfl, _⟩ := hk 0 _ _ rfl rfl
    exact ⟨a, rfl⟩
theorem rows_ints {w : World} {v : Value} {l : List Int} (h : RowsAt w 1 v (l.map fun z => [Value.int .i64 z])) : CellsAt w v (iv l) := by
  obtain ⟨ao, b, off, cap, he, hl, hm, hn, ha, _, hc⟩ := h
  simp only [List.length_map] at he hl hn ha hc
  refine ⟨ao, b, off, cap, by simpa using he, by simpa using hl, hm, by simpa using hn, fun h => (ha (by simpa using h)).1, iv_oneCell l, fun k hk => ?_⟩
  simp only [List.length_map] at hk
  have := hc k hk 0 (by omega)
  simpa using this
/-- twigs, numbers, inside of something that came in. -/
theorem open_twigsM {H : Type} {enc : TypeId × Value → H} {w : World} {fuel : Nat} {v : Value} {x : DataW H × List MemPlace}
    (h : DataW.trod enc Try.prog w 0 (fun _ => true) true fuel 32 [v] = some x) (hB : ∀ m ∈ x.1.weights Try.prog 32, m ≤ reachBytes) : ∃ t, TwAt w v t ∧ t.length ≤ 140737488355328 := by
  obtain ⟨es, hr, ho⟩ := open_rowsQ (Q := fun c => ∃ t, c = twc t ∧ True) Try.underlying32 Try.cellsTwigM (by omega) (fun _ _ _ h1 _ => by obtain ⟨t, ht⟩ := ok_twigM h1; exact ⟨t, ht, trivial⟩) h hB
  obtain ⟨l, rfl, -⟩ := all_map es ho
  refine ⟨l, hr, ?_⟩
  obtain ⟨ao, cap, e⟩ := TwAt.val hr
  have := rows_len Try.underlying32 h hB _ _ _ e
  rw [Try.bytesTwigM] at this
  simp only [reachBytes] at this
  omega
theorem open_intsM {H : Type} {enc : TypeId × Value → H} {w : World} {fuel : Nat} {v : Value} {x : DataW H × List MemPlace}
    (h : DataW.trod enc Try.prog w 0 (fun _ => true) true fuel 35 [v] = some x) (hB : ∀ m ∈ x.1.weights Try.prog 35, m ≤ reachBytes) : ∃ t : List Int, CellsAt w v (iv t) ∧ t.length ≤ 140737488355328 := by
  obtain ⟨es, hr, ho⟩ := open_rowsQ (Q := fun c => ∃ z : Int, c = [Value.int .i64 z] ∧ True) Try.underlying35 Try.cellsIntM (by omega) (fun _ _ _ h1 _ => by obtain ⟨t, ht⟩ := ok_intM h1; exact ⟨t, ht, trivial⟩) h hB
  obtain ⟨l, rfl, -⟩ := all_map es ho
  have hc := rows_ints hr
  refine ⟨l, hc, ?_⟩
  obtain ⟨ao, cap, e, -⟩ := iv_open hc
  have := rows_len Try.underlying35 h hB _ _ _ e
  rw [Try.bytesIntM] at this
  simp only [reachBytes] at this
  omega
theorem Try.flatDeedM : flatOf Try.prog 5 56 = some [.int .i64, .int .i64, .int .i64, .int .i64, .bool, .int .i64, .int .i64, .one 32, .one 35] := by kernel_rfl
theorem Try.cellsDeedM : Try.prog.cellsOf 56 = 9 := by kernel_rfl
theorem Try.deedEntryM : (match Try.prog.underlying 56 with | some (.struct fs) => (fs[2]?.map fun f => (f.type, f.offset)) | _ => none) = some (37, 4) := by kernel_rfl
theorem Try.entryFoundM : (match Try.prog.underlying 37 with | some (.struct fs) => (fs[0]?.map fun f => (f.type, f.offset)) | _ => none) = some (34, 0) := by kernel_rfl
theorem Try.entryTouchedM : (match Try.prog.underlying 37 with | some (.struct fs) => (fs[1]?.map fun f => (f.type, f.offset)) | _ => none) = some (35, 4) := by kernel_rfl
theorem Try.foundTreeM : (match Try.prog.underlying 34 with | some (.struct fs) => (fs[3]?.map fun f => (f.type, f.offset)) | _ => none) = some (32, 3) := by kernel_rfl
theorem Try.cellsEntryM : Try.prog.cellsOf 37 = 5 := by kernel_rfl
theorem Try.cellsFoundM : Try.prog.cellsOf 34 = 4 := by kernel_rfl
theorem Try.cellsTwigsM : Try.prog.cellsOf 32 = 1 := by kernel_rfl
theorem Try.cellsIntsM : Try.prog.cellsOf 35 = 1 := by kernel_rfl
set_option maxRecDepth 100000 in
theorem ok_deedM {H : Type} {enc : TypeId × Value → H} {w : World} {fuel : Nat} {cs : List Value} {y : DataW H × List MemPlace}
    (h : DataW.trod enc Try.prog w 0 (fun _ => true) true fuel 56 cs = some y) (hB : ∀ m ∈ y.1.weights Try.prog 56, m ≤ reachBytes) :
    ∃ d : DeM, cs = dec d ∧ kyOk d.k ∧ EntAt w d.x ∧ d.x.tree.length ≤ 140737488355328 ∧ d.x.tou.length ≤ 140737488355328 := by
  obtain ⟨hl, hk⟩ := open_flat _ _ _ _ _ _ Try.flatDeedM h
  have hsz : ∃ v t v' t', cs[7]? = some v ∧ cs[8]? = some v' ∧ TwAt w v t ∧ t.length ≤ 140737488355328 ∧ CellsAt w v' (iv t') ∧ t'.length ≤ 140737488355328 := by
    have hd := Try.deedEntryM
    split at hd
    · rename_i fs hu
      rw [Option.map_eq_some_iff] at hd
      obtain ⟨f, hf3, hft⟩ := hd
      simp only [Prod.mk.injEq] at hft
      obtain ⟨m, x, hx, hw⟩ := open_field hu 2 hf3 hft.1 h
      rw [hft.2, Try.cellsEntryM] at hx
      have hd2 := Try.entryFoundM
      have hd3 := Try.entryTouchedM
      split at hd2
      · rename_i fs2 hu2
        rw [hu2] at hd3
        simp only at hd3
        rw [Option.map_eq_some_iff] at hd2 hd3
        obtain ⟨f2, hf4, hft2⟩ := hd2
        obtain ⟨f3, hf5, hft3⟩ := hd3
        simp only [Prod.mk.injEq] at hft2 hft3
        obtain ⟨m2, x2, hx2, hw2⟩ := open_field hu2 0 hf4 hft2.1 hx
        obtain ⟨m3, x3, hx3, hw3⟩ := open_field hu2 1 hf5 hft3.1 hx
        rw [hft2.2, Try.cellsFoundM] at hx2
        rw [hft3.2, Try.cellsIntsM] at hx3
        have hd4 := Try.foundTreeM
        split at hd4
        · rename_i fs4 hu4
          rw [Option.map_eq_some_iff] at hd4
          obtain ⟨f4, hf6, hft4⟩ := hd4
          simp only [Prod.mk.injEq] at hft4
          obtain ⟨m4, x4, hx4, hw4⟩ := open_field hu4 3 hf6 hft4.1 hx2
          rw [hft4.2, Try.cellsTwigsM] at hx4
          match cs, hl with
          | [v0, v1, v2, v3, v4, v5, v6, v7, v8], _ =>
            obtain ⟨t, h1, h2⟩ := open_twigsM (v := v7) (by simpa using hx4) (fun k hk => hB k (hw k (hw2 k (hw4 k hk))))
            obtain ⟨t', h3, h4⟩ := open_intsM (v := v8) (by simpa using hx3) (fun k hk => hB k (hw k (hw3 k hk)))
            exact ⟨v7, t, v8, t', rfl, rfl, h1, h2, h3, h4⟩
        · cases hd4
      · cases hd2
    · cases hd
  match cs, hl, hsz with
  | [v0, v1, v2, v3, v4, v5, v6, v7, v8], _, ⟨v, t, v', t', h1, h2, h3, h4, h5, h6⟩ =>
    obtain ⟨a0, rfl, _⟩ := hk 0 _ _ rfl rfl
    obtain ⟨a1, rfl, w1⟩ := hk 1 _ _ rfl rfl
    obtain ⟨a2, rfl, w2⟩ := hk 2 _ _ rfl rfl
    obtain ⟨a3, rfl, w3⟩ := hk 3 _ _ rfl rfl
    obtain ⟨b, rfl⟩ := hk 4 _ _ rfl rfl
    obtain ⟨a5, rfl, _⟩ := hk 5 _ _ rfl rfl
    obtain ⟨a6, rfl, _⟩ := hk 6 _ _ rfl rfl
    simp only [List.getElem?_cons_succ, List.getElem?_cons_zero, Option.some.injEq] at h1 h2
    subst h1 h2
    exact ⟨⟨a0, ⟨a1, a2, a3⟩, ⟨b, a5, a6, t, t', v7, v8⟩⟩, rfl, ⟨w1, w2, w3⟩, ⟨h3, h5⟩, h4, h6⟩
set_option maxRecDepth 100000 in
/-- an argument that is a row of deeds. -/
theorem open_deedsM {H : Type} {enc : TypeId × Value → H} {W : World} {base : Nat} {v : Value} {d : DataW H} {p : List MemPlace}
    (hval : Value.okWide Try.prog W .any base 50 v) (h : DataW.Trod enc Try.prog W 0 (fun _ => true) true 50 v d p) (hB : ∀ m ∈ d.weights Try.prog 50, m ≤ reachBytes) : ∃ l : List DeM, DsAt W v l := by
  obtain ⟨a0, len, cap, rfl⟩ := okWide_slice Try.underlying50 hval
  obtain ⟨fuel, hf⟩ := h
  simp only [Value.cells] at hf
  obtain ⟨es, hr, ho⟩ := open_rowsQ (Q := fun c => ∃ d : DeM, c = dec d ∧ (kyOk d.k ∧ EntAt W d.x ∧ d.x.tree.length ≤ 140737488355328 ∧ d.x.tou.length ≤ 140737488355328)) Try.underlying50 Try.cellsDeedM (by omega) (fun _ _ _ h1 h2 => ok_deedM h1 h2) hf hB
  obtain ⟨l, rfl, hl⟩ := all_map es ho
  exact ⟨l, hr, fun d hd => ⟨(hl d hd).1, (hl d hd).2.1⟩, fun d hd => by have := (hl d hd).2.2; omega⟩
end Go.Proofs.Ytpchjpmkkiopiaa
