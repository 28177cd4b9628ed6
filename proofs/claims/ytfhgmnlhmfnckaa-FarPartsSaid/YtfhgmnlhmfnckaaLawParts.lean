/-
  FarParts: for every input the law answers true, and each argument reads as it did. No condition.
-/
import Derived.Test.YtfhgmnlhmfnckaaFarP
import Derived.Test.YtfhgmnlhmfnckaaOwn
import Derived.Test.YtfhgmnlhmfnckaaLen
namespace Go.Proofs.Ytfhgmnlhmfnckaa
open Go.ChangeShapes Go.WideShapes Go.ChangeAt Go.RowKit

set_option maxRecDepth 100000 in
set_option maxHeartbeats 1000000 in
theorem farParts_any (w : World) (v u : Value) (W : List UInt8) (l : List Miss) (f t : Int) (hv : BytesAt w v W) (hu : AsksAt w u l) (h8 : W.length ≤ 140737488351232) (h9 : l.length ≤ 140737488351232) :
    Calls Try.prog 4 #[v, u, .int .i64 f, .int .i64 t] w fun e w' => e = .returned (.bool true) ∧ Below w.heap.size w w' := by
  by_cases c1 : W.length + l.length ≤ 400
  · by_cases c2 : 0 ≤ f
    · by_cases c3 : f ≤ t
      · by_cases c4 : t ≤ l.length
        · obtain ⟨f, rfl⟩ : ∃ n : Nat, f = n := ⟨f.toNat, by omega⟩
          obtain ⟨t, rfl⟩ : ∃ n : Nat, t = n := ⟨t.toNat, by omega⟩
          exact farParts_main w v u W l f t hv hu c1 (by omega) (by omega)
        · obtain ⟨ao, b, off, cap, rfl, _, _, _, _, _⟩ := hv
          obtain ⟨ao2, cap2, rfl, _, _, _⟩ := hu.cells
          clear hu
          have g1 : ¬ ((W.length : Int) + l.length) > 400 := by omega
          have g2 : ¬ f < 0 := by omega
          have g3 : ¬ t < f := by omega
          have g4 : t > l.length := by omega
          clear c1 c2 c3 c4
          go_enter Try.func4, Try.ntmps4
          go_wp2_with fail
          refine (awake_any w).mono ?_
          rintro e w1 ⟨rfl, hb1⟩
          have HB1 := Lib.hid hb1
          clear hb1
          go_wp2
          go_ret
          exact ⟨rfl, HB1.out⟩
      · obtain ⟨ao, b, off, cap, rfl, _, _, _, _, _⟩ := hv
        obtain ⟨ao2, cap2, rfl, _, _, _⟩ := hu.cells
        clear hu
        have g1 : ¬ ((W.length : Int) + l.length) > 400 := by omega
        have g2 : ¬ f < 0 := by omega
        have g3 : t < f := by omega
        clear c1 c2 c3
        go_enter Try.func4, Try.ntmps4
        go_wp2_with fail
        refine (awake_any w).mono ?_
        rintro e w1 ⟨rfl, hb1⟩
        have HB1 := Lib.hid hb1
        clear hb1
        go_wp2
        go_ret
        exact ⟨rfl, HB1.out⟩
    · obtain ⟨ao, b, off, cap, rfl, _, _, _, _, _⟩ := hv
      obtain ⟨ao2, cap2, rfl, _, _, _⟩ := hu.cells
      clear hu
      have g1 : ¬ ((W.length : Int) + l.length) > 400 := by omega
      have g2 : f < 0 := by omega
      clear c1 c2
      go_enter Try.func4, Try.ntmps4
      go_wp2_with fail
      refine (awake_any w).mono ?_
      rintro e w1 ⟨rfl, hb1⟩
      have HB1 := Lib.hid hb1
      clear hb1
      go_wp2
      go_ret
      exact ⟨rfl, HB1.out⟩
  · obtain ⟨ao, b, off, cap, rfl, _, _, _, _, _⟩ := hv
    obtain ⟨ao2, cap2, rfl, _, _, _⟩ := hu.cells
    clear hu
    have g1 : ((W.length : Int) + l.length) > 400 := by omega
    clear c1
    go_enter Try.func4, Try.ntmps4
    go_wp2_with fail
    refine (awake_any w).mono ?_
    rintro e w1 ⟨rfl, hb1⟩
    have HB1 := Lib.hid hb1
    clear hb1
    go_wp2
    go_ret
    exact ⟨rfl, HB1.out⟩

set_option maxRecDepth 100000 in
theorem farParts_lifted (os : Os) (started : os.Started) (H : Type) (enc : TypeId × Value → H) :
    ReturnsInHanded {} Try.checked os 4 .any (Rows.farPartsSpec.pre6 enc Try.prog Try.f4 Rows.farPartsRow.domain false) (Rows.farPartsSpec.post enc Try.prog Try.f4 false true false false) := by
  refine returnsInHanded_of_change_sized (C := Try.checked) Try.own started (by kernel_rfl) Try.func4
    (ChangeSpec.witness6 (enc := enc) (C := Try.checked) false ⟨#[], #[.slice none 0 0, .slice none 0 0, .int .i64 0, .int .i64 0], []⟩ 8 (by kernel_rfl) (by kernel_rfl) (by kernel_rfl) (by kernel_rfl)) ?_
  intro W base args ds gs before hval0 hW _ hsz0 _
  have hval : ∀ (j : Nat) t v, Try.f4.params[j]? = some t → args[j]? = some v → Value.okWide Try.prog W .any base t v := hval0
  have hsz : (DataW.weightsEach Try.prog (Try.f4.params.toList ++ Rows.farPartsSpec.plain.varTypes Try.prog) (ds ++ gs)).all (· ≤ reachBytes) = true := hsz0
  have hW' := hW
  obtain ⟨p, q, hA0, hV, rfl, hfz, hnd⟩ := hW
  have hA : DataW.TrodAll enc Try.prog W 0 (fun _ => true) true Try.f4.params.toList args.toList ds p := hA0
  rw [Try.params4] at hA hval hsz
  obtain ⟨v0, vs0, d0, ds0, p0, q0, hargs, rfl, rfl, h0, r0⟩ := trodAll_cons hA
  obtain ⟨v1, vs1, d1, ds1, p1, q1, rfl, rfl, rfl, h1, r1⟩ := trodAll_cons r0
  obtain ⟨v2, vs2, d2, ds2, p2, q2, rfl, rfl, rfl, h2, r2⟩ := trodAll_cons r1
  obtain ⟨v3, vs3, d3, ds3, p3, q3, rfl, rfl, rfl, h3, r3⟩ := trodAll_cons r2
  obtain ⟨rfl, rfl, rfl⟩ := trodAll_nil r3
  obtain rfl : args = #[v0, v1, v2, v3] := by cases args; simp_all
  obtain ⟨rfl, rfl⟩ := trodVars_none hV
  obtain ⟨bs, hbs⟩ := open_bytes Try.underlying22 Try.underlying5 Try.cells5 (hval 0 22 v0 rfl rfl) h0
  obtain ⟨l, hl⟩ := open_asks (hval 1 23 v1 rfl rfl) h1
  obtain ⟨a2, rfl, rfl, rfl, w2⟩ := open_int Try.underlying3 (hval 2 3 v2 rfl rfl) h2
  obtain ⟨a3, rfl, rfl, rfl, w3⟩ := open_int Try.underlying3 (hval 3 3 v3 rfl rfl) h3
  have s0 : bs.length ≤ 140737488351232 := by
    obtain ⟨ao, b, off, cap, hv, _⟩ := hbs
    have := slice_len Try.underlying22 h0 _ _ 0 hsz rfl rfl _ _ _ hv
    rw [Try.bytes5] at this
    omega
  have s1 : l.length ≤ 140737488351232 := by
    obtain ⟨ao, cap, hv, _⟩ := hl.cells
    have := slice_len Try.underlying23 h1 _ _ 1 hsz rfl rfl _ _ _ hv
    have hb : Try.prog.bytesOf 31 = 40 := by kernel_rfl
    rw [hb] at this
    omega
  refine (farParts_any W v0 v1 bs l a2 a3 hbs hl s0 s1).mono fun e W' ⟨he, hb⟩ => ?_
  subst he
  exact ⟨_, rfl, law_post Try.laidOut (by rw [Try.params4]; decide +kernel) rfl rfl Try.underlying4 hb hW' rfl rfl rfl⟩

theorem farParts_holds : Rows.FarPartsSaid :=
  OpenClaim.holds_of_wide 4 Try.f4 rfl rfl rfl rfl rfl rfl rfl ⟨rfl, rfl, rfl, rfl, rfl⟩ rfl rfl rfl rfl rfl (by kernel_rfl) Try.func4 (by kernel_rfl)
    (of_decide_eq_true (by kernel_rfl)) (by unfold Func.isWrapper; first | (rw [if_pos (by decide +kernel)]; kernel_rfl) | (rw [if_neg (by decide +kernel)]; exact ⟨rfl, rfl⟩))
    (fun os started H enc _ => farParts_lifted os started H enc)
end Go.Proofs.Ytfhgmnlhmfnckaa
