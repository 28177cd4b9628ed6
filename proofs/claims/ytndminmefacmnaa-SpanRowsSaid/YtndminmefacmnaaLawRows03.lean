/-
  SpanRows: for every input the law answers true, and each argument reads as it did. No condition.
-/
import Derived.Test.YtndminmefacmnaaSoA
import Derived.Test.YtndminmefacmnaaSpo
namespace Go.Proofs.Ytndminmefacmnaa
open Go.ChangeShapes Go.WideShapes Go.ChangeAt Go.RowKit

set_option maxRecDepth 100000 in
theorem spanRows_lifted (os : Os) (started : os.Started) (H : Type) (enc : TypeId × Value → H) :
    ReturnsInHanded {} Try.checked os 6 .any (Rows.spanRowsSpec.pre6 enc Try.prog Try.f6 Rows.spanRowsRow.domain false) (Rows.spanRowsSpec.post enc Try.prog Try.f6 false true false false) := by
  refine returnsInHanded_of_change_sized (C := Try.checked) Try.own started (by kernel_rfl) Try.func6
    (ChangeSpec.witness6 (enc := enc) (C := Try.checked) false ⟨#[], #[.agg #[.int .i64 0, .int .i64 0], .slice none 0 0, .slice none 0 0], []⟩ 8 (by kernel_rfl) (by kernel_rfl) (by kernel_rfl) (by kernel_rfl)) ?_
  intro W base args ds gs before hval0 hW _ hsz0 _
  have hval : ∀ (j : Nat) t v, Try.f6.params[j]? = some t → args[j]? = some v → Value.okWide Try.prog W .any base t v := hval0
  have hsz : (DataW.weightsEach Try.prog (Try.f6.params.toList ++ Rows.spanRowsSpec.plain.varTypes Try.prog) (ds ++ gs)).all (· ≤ reachBytes) = true := hsz0
  have hW' := hW
  obtain ⟨p, q, hA0, hV, rfl, hfz, hnd⟩ := hW
  have hA : DataW.TrodAll enc Try.prog W 0 (fun _ => true) true Try.f6.params.toList args.toList ds p := hA0
  rw [Try.params6] at hA hval hsz
  obtain ⟨v0, vs0, d0, ds0, p0, q0, hargs, rfl, rfl, h0, r0⟩ := trodAll_cons hA
  obtain ⟨v1, vs1, d1, ds1, p1, q1, rfl, rfl, rfl, h1, r1⟩ := trodAll_cons r0
  obtain ⟨v2, vs2, d2, ds2, p2, q2, rfl, rfl, rfl, h2, r2⟩ := trodAll_cons r1
  obtain ⟨rfl, rfl, rfl⟩ := trodAll_nil r2
  obtain rfl : args = #[v0, v1, v2] := by cases args; simp_all
  obtain ⟨rfl, rfl⟩ := trodVars_none hV
  obtain ⟨⟨a, b⟩, rfl, hs0⟩ := open_span (hval 0 23 v0 rfl rfl) h0
  obtain ⟨l, hl, hlw, hz⟩ := open_spans (hval 1 24 v1 rfl rfl) h1 (fun m hm => by
    have := List.all_eq_true.1 hsz m (DataW.weights_mem_each (j := 1) (t := 24) rfl rfl m hm)
    simpa using this)
  obtain ⟨bs, hbs⟩ := open_bytes Try.underlying35 Try.underlying5 Try.cells5 (hval 2 35 v2 rfl rfl) h2
  have hbl : bs.length ≤ 140737488351232 := by
    obtain ⟨ao, b, off, cap, hv, -⟩ := hbs
    have := slice_len Try.underlying35 h2 _ _ 2 hsz rfl rfl _ _ _ hv
    rw [show Try.prog.bytesOf 5 = 1 from by kernel_rfl] at this
    omega
  refine (spanRows_main a b v1 v2 l bs W hl hbs (fun s hs => (hlw s hs).2.2) (fun s hs => (hlw s hs).2.2) hs0.2.2 (by omega) (by omega)).mono fun e W' ⟨he, hb⟩ => ?_
  subst he
  exact ⟨_, rfl, law_post Try.laidOut (by rw [Try.params6]; decide +kernel) rfl rfl Try.underlying4 hb hW' rfl rfl rfl⟩

theorem spanRows_holds : Rows.SpanRowsSaid :=
  OpenClaim.holds_of_wide 6 Try.f6 rfl rfl rfl rfl rfl rfl rfl ⟨rfl, rfl, rfl, rfl, rfl⟩ rfl rfl rfl rfl rfl (by kernel_rfl) Try.func6 (by kernel_rfl)
    (of_decide_eq_true (by kernel_rfl)) (by unfold Func.isWrapper; first | (rw [if_pos (by decide +kernel)]; kernel_rfl) | (rw [if_neg (by decide +kernel)]; exact ⟨rfl, rfl⟩))
    (fun os started H enc _ => spanRows_lifted os started H enc)
end Go.Proofs.Ytndminmefacmnaa
