/-
  FarText: for every input the law answers true, and each argument reads as it did. No condition.
-/
import Derived.Test.YtfhgmnlhmfnckaaFarT
import Derived.Test.YtfhgmnlhmfnckaaOwn
import Derived.ChangeMaps5
namespace Go.Proofs.Ytfhgmnlhmfnckaa
open Go.ChangeShapes Go.WideShapes Go.ChangeAt Go.RowKit Go.ChangeMaps

set_option maxRecDepth 100000 in
set_option maxHeartbeats 1000000 in
theorem farText_any (w : World) (v : Value) (W : List UInt8) (s : ByteArray) (place : Int) (hv : BytesAt w v W) :
    Calls Try.prog 5 #[v, .string s, .int .i64 place] w fun e w' => e = .returned (.bool true) ∧ Below w.heap.size w w' := by
  by_cases c1 : W.length ≤ 400
  · by_cases c2 : s.size ≤ 100
    · by_cases c3 : 0 ≤ place
      · by_cases c4 : place ≤ 4611686018427387904
        · obtain ⟨p0, rfl⟩ : ∃ p0 : Nat, place = p0 := ⟨place.toNat, by omega⟩
          exact farText_main w v W s p0 hv c1 c2 (by omega)
        · obtain ⟨ao, b, off, cap, rfl, _, _, _, _, _⟩ := hv
          have g1 : ¬ (W.length : Int) > 400 := by omega
          have g2 : ¬ (s.size : Int) > 100 := by omega
          have g3 : ¬ place < 0 := by omega
          have g4 : place > 4611686018427387904 := by omega
          clear c1 c2 c3 c4
          go_enter Try.func5, Try.ntmps5
          go_wp2_with fail
          refine (awake_any w).mono ?_
          rintro e w1 ⟨rfl, hb1⟩
          have HB1 := Lib.hid hb1
          clear hb1
          go_wp2
          go_ret
          exact ⟨rfl, HB1.out⟩
      · obtain ⟨ao, b, off, cap, rfl, _, _, _, _, _⟩ := hv
        have g1 : ¬ (W.length : Int) > 400 := by omega
        have g2 : ¬ (s.size : Int) > 100 := by omega
        have g3 : place < 0 := by omega
        clear c1 c2 c3
        go_enter Try.func5, Try.ntmps5
        go_wp2_with fail
        refine (awake_any w).mono ?_
        rintro e w1 ⟨rfl, hb1⟩
        have HB1 := Lib.hid hb1
        clear hb1
        go_wp2
        go_ret
        exact ⟨rfl, HB1.out⟩
    · obtain ⟨ao, b, off, cap, rfl, _, _, _, _, _⟩ := hv
      have g1 : ¬ (W.length : Int) > 400 := by omega
      have g2 : (s.size : Int) > 100 := by omega
      clear c1 c2
      go_enter Try.func5, Try.ntmps5
      go_wp2_with fail
      refine (awake_any w).mono ?_
      rintro e w1 ⟨rfl, hb1⟩
      have HB1 := Lib.hid hb1
      clear hb1
      go_wp2
      go_ret
      exact ⟨rfl, HB1.out⟩
  · obtain ⟨ao, b, off, cap, rfl, _, _, _, _, _⟩ := hv
    have g1 : (W.length : Int) > 400 := by omega
    clear c1
    go_enter Try.func5, Try.ntmps5
    go_wp2_with fail
    refine (awake_any w).mono ?_
    rintro e w1 ⟨rfl, hb1⟩
    have HB1 := Lib.hid hb1
    clear hb1
    go_wp2
    go_ret
    exact ⟨rfl, HB1.out⟩

set_option maxRecDepth 100000 in
theorem farText_lifted (os : Os) (started : os.Started) (H : Type) (enc : TypeId × Value → H) :
    ReturnsInHanded {} Try.checked os 5 .any (Rows.farTextSpec.pre6 enc Try.prog Try.f5 Rows.farTextRow.domain false) (Rows.farTextSpec.post enc Try.prog Try.f5 false true false false) := by
  refine returnsInHanded_of_change (C := Try.checked) Try.own started (by kernel_rfl) Try.func5
    (ChangeSpec.witness6 (enc := enc) (C := Try.checked) false ⟨#[], #[.slice none 0 0, .string ⟨#[]⟩, .int .i64 0], []⟩ 8 (by kernel_rfl) (by kernel_rfl) (by kernel_rfl) (by kernel_rfl)) ?_
  intro W base args ds gs before hval0 hW _ _
  have hval : ∀ (j : Nat) t v, Try.f5.params[j]? = some t → args[j]? = some v → Value.okWide Try.prog W .any base t v := hval0
  have hW' := hW
  obtain ⟨p, q, hA0, hV, rfl, hfz, hnd⟩ := hW
  have hA : DataW.TrodAll enc Try.prog W 0 (fun _ => true) true Try.f5.params.toList args.toList ds p := hA0
  rw [Try.params5] at hA hval
  obtain ⟨v0, vs0, d0, ds0, p0, q0, hargs, rfl, rfl, h0, r0⟩ := trodAll_cons hA
  obtain ⟨v1, vs1, d1, ds1, p1, q1, rfl, rfl, rfl, h1, r1⟩ := trodAll_cons r0
  obtain ⟨v2, vs2, d2, ds2, p2, q2, rfl, rfl, rfl, h2, r2⟩ := trodAll_cons r1
  obtain ⟨rfl, rfl, rfl⟩ := trodAll_nil r2
  obtain rfl : args = #[v0, v1, v2] := by cases args; simp_all
  obtain ⟨rfl, rfl⟩ := trodVars_none hV
  obtain ⟨bs, hbs⟩ := open_bytes Try.underlying22 Try.underlying5 Try.cells5 (hval 0 22 v0 rfl rfl) h0
  obtain ⟨s1, rfl, rfl, rfl, _⟩ := open_string Try.underlying9 (hval 1 9 v1 rfl rfl) h1
  obtain ⟨a2, rfl, rfl, rfl, w2⟩ := open_int Try.underlying3 (hval 2 3 v2 rfl rfl) h2
  refine (farText_any W v0 bs s1 a2 hbs).mono fun e W' ⟨he, hb⟩ => ?_
  subst he
  exact ⟨_, rfl, law_post Try.laidOut (by rw [Try.params5]; decide +kernel) rfl rfl Try.underlying4 hb hW' rfl rfl rfl⟩

theorem farText_holds : Rows.FarTextSaid :=
  OpenClaim.holds_of_wide 5 Try.f5 rfl rfl rfl rfl rfl rfl rfl ⟨rfl, rfl, rfl, rfl, rfl⟩ rfl rfl rfl rfl rfl (by kernel_rfl) Try.func5 (by kernel_rfl)
    (of_decide_eq_true (by kernel_rfl)) (by unfold Func.isWrapper; first | (rw [if_pos (by decide +kernel)]; kernel_rfl) | (rw [if_neg (by decide +kernel)]; exact ⟨rfl, rfl⟩))
    (fun os started H enc _ => farText_lifted os started H enc)
end Go.Proofs.Ytfhgmnlhmfnckaa
