import Derived.Test.YtcpcgpanmoellaaItDm
namespace Go.Proofs.Ytcpcgpanmoellaa
open Go.ChangeShapes Go.WideShapes Go.ChangeAt Go.RowKit

set_option maxRecDepth 100000 in
theorem heapDoes_lifted (os : Os) (started : os.Started) (H : Type) (enc : TypeId × Value → H) :
    ReturnsInHanded {} Try.checked os 5 .any (Rows.heapDoesSpec.pre6 enc Try.prog Try.f5 Rows.heapDoesRow.domain false) (Rows.heapDoesSpec.post enc Try.prog Try.f5 false true false false) := by
  refine returnsInHanded_of_change_sized (C := Try.checked) Try.own started (by kernel_rfl) Try.func5
    (ChangeSpec.witness6 (enc := enc) (C := Try.checked) false ⟨#[], #[.slice none 0 0, .slice none 0 0], []⟩ 8 (by kernel_rfl) (by kernel_rfl) (by kernel_rfl) (by kernel_rfl)) ?_
  intro W base args ds gs before hval0 hW _ hsz0 _
  have hval : ∀ (j : Nat) t v, Try.f5.params[j]? = some t → args[j]? = some v → Value.okWide Try.prog W .any base t v := hval0
  have hsz : (DataW.weightsEach Try.prog (Try.f5.params.toList ++ Rows.heapDoesSpec.plain.varTypes Try.prog) (ds ++ gs)).all (· ≤ reachBytes) = true := hsz0
  have hW' := hW
  obtain ⟨p, q, hA0, hV, rfl, hfz, hnd⟩ := hW
  have hA : DataW.TrodAll enc Try.prog W 0 (fun _ => true) true Try.f5.params.toList args.toList ds p := hA0
  rw [Try.params5] at hA hval hsz
  obtain ⟨v0, vs0, d0, ds0, p0, q0, hargs, rfl, rfl, h0, r0⟩ := trodAll_cons hA
  obtain ⟨v1, vs1, d1, ds1, p1, q1, rfl, rfl, rfl, h1, r1⟩ := trodAll_cons r0
  obtain ⟨rfl, rfl, rfl⟩ := trodAll_nil r1
  obtain rfl : args = #[v0, v1] := by cases args; simp_all
  obtain ⟨rfl, rfl⟩ := trodVars_none hV
  obtain ⟨l0, hl0⟩ := open_items (hval 0 40 v0 rfl rfl) h0 (fun m hm => by
    have := List.all_eq_true.1 hsz m (DataW.weights_mem_each (j := 0) (t := 40) rfl rfl m hm)
    simpa using this)
  obtain ⟨l, hl⟩ := open_deeds (hval 1 45 v1 rfl rfl) h1 (fun m hm => by
    have := List.all_eq_true.1 hsz m (DataW.weights_mem_each (j := 1) (t := 45) rfl rfl m hm)
    simpa using this)
  have s0 : l0.length ≤ 140737488351232 := by
    obtain ⟨ao, b, off, cap, hv, _⟩ := hl0.cells
    have := slice_len Try.underlying40 h0 _ _ 0 hsz rfl rfl _ _ _ hv
    have hb : Try.prog.bytesOf 30 = 16 := by kernel_rfl
    rw [hb] at this
    omega
  have s1 : l.length ≤ 140737488351232 := by
    obtain ⟨ao, b, off, cap, hv, _⟩ := hl.cells
    have := slice_len Try.underlying45 h1 _ _ 1 hsz rfl rfl _ _ _ hv
    have hb : Try.prog.bytesOf 54 = 24 := by kernel_rfl
    rw [hb] at this
    omega
  refine (heapDoes_main W v0 v1 l0 l hl0 hl s0 s1).mono fun e W' ⟨he, hb⟩ => ?_
  subst he
  exact ⟨_, rfl, law_post Try.laidOut (by rw [Try.params5]; decide +kernel) rfl rfl Try.underlying4 hb hW' rfl rfl rfl⟩

theorem heapDoes_holds : Rows.HeapDoesSaid :=
  OpenClaim.holds_of_wide 5 Try.f5 rfl rfl rfl rfl rfl rfl rfl ⟨rfl, rfl, rfl, rfl, rfl⟩ rfl rfl rfl rfl rfl (by kernel_rfl) Try.func5 (by kernel_rfl)
    (of_decide_eq_true (by kernel_rfl)) (by unfold Func.isWrapper; first | (rw [if_pos (by decide +kernel)]; kernel_rfl) | (rw [if_neg (by decide +kernel)]; exact ⟨rfl, rfl⟩))
    (fun os started H enc _ => heapDoes_lifted os started H enc)
end Go.Proofs.Ytcpcgpanmoellaa
