/-
  TreeBuilds: for every input the law answers true, and each argument reads as it did. No condition.
-/
import Derived.Test.YtadkjjpopmiceaaDbu
import Derived.Test.YtadkjjpopmiceaaOwt
namespace Go.Proofs.Ytadkjjpopmiceaa
open Go.ChangeShapes Go.WideShapes Go.ChangeAt Go.RowKit

theorem Try.flatDeed : flatOf Try.prog 5 55 = some [.int .i64, .int .i64, .int .i64, .int .i64, .int .i64, .int .i64, .one 22] := by kernel_rfl
theorem Try.cellsDeed : Try.prog.cellsOf 55 = 7 := by kernel_rfl
theorem Try.bytesDeed : Try.prog.bytesOf 55 = 72 := by kernel_rfl
theorem Try.deedRow : (match Try.prog.underlying 55 with | some (.struct fs) => (fs[5]?.map fun f => (f.type, f.offset)) | _ => none) = some (22, 6) := by kernel_rfl
theorem Try.cellsTws : Try.prog.cellsOf 22 = 1 := by kernel_rfl
theorem one_cell {H : Type} {enc : TypeId × Value → H} {w : World} {fuel : Nat} {cs : List Value} {y : DataW H × List MemPlace} (h : DataW.trod enc Try.prog w 0 (fun _ => true) true fuel 22 cs = some y) : ∃ v, cs = [v] := by
  rcases DataW.trod_slice Try.underlying22 h with ⟨rfl, _⟩ | ⟨a, len, cap, _, _, _, _, rfl, _⟩
  · exact ⟨_, rfl⟩
  · exact ⟨_, rfl⟩
theorem ok_dd {H : Type} {enc : TypeId × Value → H} {w : World} {fuel : Nat} {cs : List Value} {y : DataW H × List MemPlace}
    (h : DataW.trod enc Try.prog w 0 (fun _ => true) true fuel 55 cs = some y) (hB : ∀ m ∈ y.1.weights Try.prog 55, m ≤ reachBytes) : ∃ d, cs = ddc d ∧ DdOk w d := by
  obtain ⟨hl, hk⟩ := open_flat _ _ _ _ _ _ Try.flatDeed h
  have hsz : ∃ v t, cs[6]? = some v ∧ TwAt w v t ∧ (∀ x ∈ t, twOk x) ∧ t.length ≤ 140737488355328 := by
    have hd := Try.deedRow
    split at hd
    · rename_i fs hu
      rw [Option.map_eq_some_iff] at hd
      obtain ⟨f, hf3, hft⟩ := hd
      simp only [Prod.mk.injEq] at hft
      obtain ⟨m, x, hx, hw⟩ := open_field hu 5 hf3 hft.1 h
      rw [hft.2, Try.cellsTws] at hx
      obtain ⟨v, h1⟩ := one_cell hx
      rw [h1] at hx
      obtain ⟨t, h2, h3, h4⟩ := open_twigsQ hx (fun k hk => hB k (hw k hk))
      refine ⟨v, t, ?_, h2, h3, h4⟩
      have e : ((cs.drop 6).take 1)[0]? = some v := by rw [h1]; rfl
      rw [List.getElem?_take_of_lt (by omega), List.getElem?_drop] at e
      exact e
    · cases hd
  match cs, hl, hsz with
  | [v0, v1, v2, v3, v4, v5, v6], _, ⟨v, t, h1, h2, h3, h4⟩ =>
    obtain ⟨a, rfl, _⟩ := hk 0 _ _ rfl rfl
    obtain ⟨b, rfl, _⟩ := hk 1 _ _ rfl rfl
    obtain ⟨c, rfl, _⟩ := hk 2 _ _ rfl rfl
    obtain ⟨d, rfl, _⟩ := hk 3 _ _ rfl rfl
    obtain ⟨e, rfl, _⟩ := hk 4 _ _ rfl rfl
    obtain ⟨f, rfl, hf⟩ := hk 5 _ _ rfl rfl
    simp only [List.getElem?_cons_succ, List.getElem?_cons_zero, Option.some.injEq] at h1
    subst h1
    exact ⟨⟨a, b, c, d, e, f, v6, t⟩, rfl, h2, h3, h4, (wf_le hf).2⟩
set_option maxRecDepth 100000 in
/-- an argument that is a row of deeds. -/
theorem open_dds {H : Type} {enc : TypeId × Value → H} {W : World} {base : Nat} {v : Value} {d : DataW H} {p : List MemPlace}
    (hval : Value.okWide Try.prog W .any base 49 v) (h : DataW.Trod enc Try.prog W 0 (fun _ => true) true 49 v d p) (hB : ∀ m ∈ d.weights Try.prog 49, m ≤ reachBytes) : ∃ L, DdsAt W v L ∧ L.length ≤ 140737488351232 := by
  obtain ⟨a0, len, cap, rfl⟩ := okWide_slice Try.underlying49 hval
  obtain ⟨fuel, hf⟩ := h
  simp only [Value.cells] at hf
  obtain ⟨es, hr, ho⟩ := open_rowsQ (Q := fun c => ∃ d, c = ddc d ∧ DdOk W d) Try.underlying49 Try.cellsDeed (by omega) (fun _ _ _ h1 h2 => ok_dd h1 h2) hf hB
  obtain ⟨L, rfl, hok⟩ := all_map (f := ddc) es ho
  refine ⟨L, ⟨hr, hok⟩, ?_⟩
  have hl : len = L.length := by
    obtain ⟨ao, b, off, cap', he, -⟩ := hr
    simp only [Value.slice.injEq, List.length_map] at he
    exact he.2.1
  have := rows_len Try.underlying49 hf hB _ _ _ rfl
  rw [Try.bytesDeed] at this
  simp only [reachBytes] at this
  omega
set_option maxRecDepth 100000 in
theorem treeBuilds_lifted (os : Os) (started : os.Started) (H : Type) (enc : TypeId × Value → H) :
    ReturnsInHanded {} Try.checked os 5 .any (Rows.treeBuildsSpec.pre6 enc Try.prog Try.f5 Rows.treeBuildsRow.domain false) (Rows.treeBuildsSpec.post enc Try.prog Try.f5 false true false false) := by
  refine returnsInHanded_of_change_sized (C := Try.checked) Try.own started (by kernel_rfl) Try.func5
    (ChangeSpec.witness6 (enc := enc) (C := Try.checked) false ⟨#[], #[.int .i64 0, .slice none 0 0], []⟩ 8 (by kernel_rfl) (by kernel_rfl) (by kernel_rfl) (by kernel_rfl)) ?_
  intro W base args ds gs before hval0 hW _ hsz0 _
  have hval : ∀ (j : Nat) t v, Try.f5.params[j]? = some t → args[j]? = some v → Value.okWide Try.prog W .any base t v := hval0
  have hsz : (DataW.weightsEach Try.prog (Try.f5.params.toList ++ Rows.treeBuildsSpec.plain.varTypes Try.prog) (ds ++ gs)).all (· ≤ reachBytes) = true := hsz0
  have hW' := hW
  obtain ⟨p, q, hA0, hV, rfl, hfz, hnd⟩ := hW
  have hA : DataW.TrodAll enc Try.prog W 0 (fun _ => true) true Try.f5.params.toList args.toList ds p := hA0
  rw [Try.params5] at hA hval hsz
  obtain ⟨v0, vs0, d0, ds0, p0, q0, hargs, rfl, rfl, h0, r0⟩ := trodAll_cons hA
  obtain ⟨v1, vs1, d1, ds1, p1, q1, rfl, rfl, rfl, h1, r1⟩ := trodAll_cons r0
  obtain ⟨rfl, rfl, rfl⟩ := trodAll_nil r1
  obtain rfl : args = #[v0, v1] := by cases args; simp_all
  obtain ⟨rfl, rfl⟩ := trodVars_none hV
  obtain ⟨room, rfl, rfl, rfl, w0⟩ := open_int Try.underlying3 (hval 0 3 v0 rfl rfl) h0
  obtain ⟨L, hL, hz⟩ := open_dds (hval 1 49 v1 rfl rfl) h1 (fun m hm => by
    have := List.all_eq_true.1 hsz m (DataW.weights_mem_each (j := 1) (t := 49) rfl rfl m hm)
    simpa using this)
  refine (treeBuilds_main room v1 L W hL hz (wf_le w0).2).mono fun e W' ⟨he, hb⟩ => ?_
  subst he
  exact ⟨_, rfl, law_post Try.laidOut (by rw [Try.params5]; decide +kernel) rfl rfl Try.underlying4 hb hW' rfl rfl rfl⟩

theorem treeBuilds_holds : Rows.TreeBuildsSaid :=
  OpenClaim.holds_of_wide 5 Try.f5 rfl rfl rfl rfl rfl rfl rfl ⟨rfl, rfl, rfl, rfl, rfl⟩ rfl rfl rfl rfl rfl (by kernel_rfl) Try.func5 (by kernel_rfl)
    (of_decide_eq_true (by kernel_rfl)) (by unfold Func.isWrapper; first | (rw [if_pos (by decide +kernel)]; kernel_rfl) | (rw [if_neg (by decide +kernel)]; exact ⟨rfl, rfl⟩))
    (fun os started H enc _ => treeBuilds_lifted os started H enc)
end Go.Proofs.Ytadkjjpopmiceaa
