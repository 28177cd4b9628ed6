/-
  TreeBack: for every input the law answers true, and each argument reads as it did. No condition.
-/
import Derived.Test.YtadkjjpopmiceaaTbl
import Derived.Test.YtadkjjpopmiceaaOwt
namespace Go.Proofs.Ytadkjjpopmiceaa
open Go.ChangeShapes Go.WideShapes Go.ChangeAt Go.RowKit

theorem Try.cellsSlTw : Try.prog.cellsOf 22 = 1 := by kernel_rfl
theorem Try.bytesSlTw : Try.prog.bytesOf 22 = 24 := by kernel_rfl
theorem Try.flatSpan : flatOf Try.prog 5 30 = some [.int .i64, .int .i64] := by kernel_rfl
theorem Try.cellsSpan : Try.prog.cellsOf 30 = 2 := by kernel_rfl
theorem Try.bytesSpan : Try.prog.bytesOf 30 = 16 := by kernel_rfl
abbrev QRw (w : World) (p : Value × List Tw) : Prop := TwAt w p.1 p.2 ∧ (∀ t ∈ p.2, twOk t) ∧ p.2.length ≤ 140737488355328
theorem ok_rw {H : Type} {enc : TypeId × Value → H} {w : World} {fuel : Nat} {cs : List Value} {y : DataW H × List MemPlace} (h : DataW.trod enc Try.prog w 0 (fun _ => true) true fuel 22 cs = some y) (hB : ∀ m ∈ y.1.weights Try.prog 22, m ≤ reachBytes) :
    ∃ p : Value × List Tw, cs = [p.1] ∧ QRw w p := by
  have hc : ∃ v, cs = [v] := by
    rcases DataW.trod_slice Try.underlying22 h with ⟨rfl, _⟩ | ⟨a, len, cap, _, _, _, _, rfl, _⟩
    · exact ⟨_, rfl⟩
    · exact ⟨_, rfl⟩
  obtain ⟨v, rfl⟩ := hc
  obtain ⟨t, h1, h2, h3⟩ := open_twigsQ h hB
  exact ⟨(v, t), rfl, h1, h2, h3⟩
set_option maxRecDepth 100000 in
/-- an argument that is rows of twigs. -/
theorem open_rws {H : Type} {enc : TypeId × Value → H} {W : World} {base : Nat} {v : Value} {d : DataW H} {p : List MemPlace}
    (hval : Value.okWide Try.prog W .any base 35 v) (h : DataW.Trod enc Try.prog W 0 (fun _ => true) true 35 v d p) (hB : ∀ m ∈ d.weights Try.prog 35, m ≤ reachBytes) : ∃ L, RwsAt W v L ∧ L.length ≤ 140737488355328 := by
  obtain ⟨a0, len, cap, rfl⟩ := okWide_slice Try.underlying35 hval
  obtain ⟨fuel, hf⟩ := h
  simp only [Value.cells] at hf
  obtain ⟨es, hr, ho⟩ := open_rowsQ (Q := fun c => ∃ p : Value × List Tw, c = [p.1] ∧ QRw W p) Try.underlying35 Try.cellsSlTw (by omega) (fun _ _ _ h1 h2 => ok_rw h1 h2) hf hB
  obtain ⟨L, rfl, hok⟩ := all_map (f := fun p : Value × List Tw => [p.1]) es ho
  refine ⟨L, ⟨hr, hok⟩, ?_⟩
  have hl : len = L.length := by
    obtain ⟨ao, b, off, cap', he, -⟩ := hr
    simp only [Value.slice.injEq, List.length_map] at he
    exact he.2.1
  have := rows_len Try.underlying35 hf hB _ _ _ rfl
  rw [Try.bytesSlTw] at this
  simp only [reachBytes] at this
  omega
theorem ok_span {H : Type} {enc : TypeId × Value → H} {w : World} {fuel : Nat} {cs : List Value} {y : DataW H × List MemPlace} (h : DataW.trod enc Try.prog w 0 (fun _ => true) true fuel 30 cs = some y) : ∃ p : Int × Int, cs = [.int .i64 p.1, .int .i64 p.2] ∧ p.2 ≤ 9223372036854775807 := by
  obtain ⟨hl, hk⟩ := open_flat _ _ _ _ _ _ Try.flatSpan h
  match cs, hl with
  | [v0, v1], _ =>
    obtain ⟨a, rfl, _⟩ := hk 0 _ _ rfl rfl
    obtain ⟨b, rfl, hb⟩ := hk 1 _ _ rfl rfl
    exact ⟨(a, b), rfl, (wf_le hb).2⟩
set_option maxRecDepth 100000 in
/-- an argument that is spans. -/
theorem open_sps {H : Type} {enc : TypeId × Value → H} {W : World} {base : Nat} {v : Value} {d : DataW H} {p : List MemPlace}
    (hval : Value.okWide Try.prog W .any base 36 v) (h : DataW.Trod enc Try.prog W 0 (fun _ => true) true 36 v d p) (hB : ∀ m ∈ d.weights Try.prog 36, m ≤ reachBytes) : ∃ S, SpsAt W v S ∧ S.length ≤ 140737488355328 := by
  obtain ⟨a0, len, cap, rfl⟩ := okWide_slice Try.underlying36 hval
  obtain ⟨fuel, hf⟩ := h
  simp only [Value.cells] at hf
  obtain ⟨es, hr, ho⟩ := open_rowsQ (Q := fun c => ∃ p : Int × Int, c = [.int .i64 p.1, .int .i64 p.2] ∧ p.2 ≤ 9223372036854775807) Try.underlying36 Try.cellsSpan (by omega) (fun _ _ _ h1 _ => ok_span h1) hf hB
  obtain ⟨S, rfl, hok⟩ := all_map (f := fun p : Int × Int => [Value.int .i64 p.1, .int .i64 p.2]) es ho
  refine ⟨S, ⟨hr, hok⟩, ?_⟩
  have hl : len = S.length := by
    obtain ⟨ao, b, off, cap', he, -⟩ := hr
    simp only [Value.slice.injEq, List.length_map] at he
    exact he.2.1
  have := rows_len Try.underlying36 hf hB _ _ _ rfl
  rw [Try.bytesSpan] at this
  simp only [reachBytes] at this
  omega
set_option maxRecDepth 100000 in
theorem treeBack_lifted (os : Os) (started : os.Started) (H : Type) (enc : TypeId × Value → H) :
    ReturnsInHanded {} Try.checked os 4 .any (Rows.treeBackSpec.pre6 enc Try.prog Try.f4 Rows.treeBackRow.domain false) (Rows.treeBackSpec.post enc Try.prog Try.f4 false true false false) := by
  refine returnsInHanded_of_change_sized (C := Try.checked) Try.own started (by kernel_rfl) Try.func4
    (ChangeSpec.witness6 (enc := enc) (C := Try.checked) false ⟨#[], #[.slice none 0 0, .slice none 0 0, .int .i64 0], []⟩ 8 (by kernel_rfl) (by kernel_rfl) (by kernel_rfl) (by kernel_rfl)) ?_
  intro W base args ds gs before hval0 hW _ hsz0 _
  have hval : ∀ (j : Nat) t v, Try.f4.params[j]? = some t → args[j]? = some v → Value.okWide Try.prog W .any base t v := hval0
  have hsz : (DataW.weightsEach Try.prog (Try.f4.params.toList ++ Rows.treeBackSpec.plain.varTypes Try.prog) (ds ++ gs)).all (· ≤ reachBytes) = true := hsz0
  have hW' := hW
  obtain ⟨p, q, hA0, hV, rfl, hfz, hnd⟩ := hW
  have hA : DataW.TrodAll enc Try.prog W 0 (fun _ => true) true Try.f4.params.toList args.toList ds p := hA0
  rw [Try.params4] at hA hval hsz
  obtain ⟨v0, vs0, d0, ds0, p0, q0, hargs, rfl, rfl, h0, r0⟩ := trodAll_cons hA
  obtain ⟨v1, vs1, d1, ds1, p1, q1, rfl, rfl, rfl, h1, r1⟩ := trodAll_cons r0
  obtain ⟨v2, vs2, d2, ds2, p2, q2, rfl, rfl, rfl, h2, r2⟩ := trodAll_cons r1
  obtain ⟨rfl, rfl, rfl⟩ := trodAll_nil r2
  obtain rfl : args = #[v0, v1, v2] := by cases args; simp_all
  obtain ⟨rfl, rfl⟩ := trodVars_none hV
  obtain ⟨L, hL, hz⟩ := open_rws (hval 0 35 v0 rfl rfl) h0 (fun m hm => by
    have := List.all_eq_true.1 hsz m (DataW.weights_mem_each (j := 0) (t := 35) rfl rfl m hm)
    simpa using this)
  obtain ⟨S, hS, hz2⟩ := open_sps (hval 1 36 v1 rfl rfl) h1 (fun m hm => by
    have := List.all_eq_true.1 hsz m (DataW.weights_mem_each (j := 1) (t := 36) rfl rfl m hm)
    simpa using this)
  obtain ⟨mk, rfl, rfl, rfl, w2⟩ := open_int Try.underlying3 (hval 2 3 v2 rfl rfl) h2
  refine (treeBack_main v0 v1 L S mk W hL hS hz hz2).mono fun e W' ⟨he, hb⟩ => ?_
  subst he
  exact ⟨_, rfl, law_post Try.laidOut (by rw [Try.params4]; decide +kernel) rfl rfl Try.underlying4 hb hW' rfl rfl rfl⟩

theorem treeBack_holds : Rows.TreeBackSaid :=
  OpenClaim.holds_of_wide 4 Try.f4 rfl rfl rfl rfl rfl rfl rfl ⟨rfl, rfl, rfl, rfl, rfl⟩ rfl rfl rfl rfl rfl (by kernel_rfl) Try.func4 (by kernel_rfl)
    (of_decide_eq_true (by kernel_rfl)) (by unfold Func.isWrapper; first | (rw [if_pos (by decide +kernel)]; kernel_rfl) | (rw [if_neg (by decide +kernel)]; exact ⟨rfl, rfl⟩))
    (fun os started H enc _ => treeBack_lifted os started H enc)
end Go.Proofs.Ytadkjjpopmiceaa
