/-
  The document's answer: which answers are found, what is told.
-/
import Derived.Test.YtebgleehmgmfbaaGGrow
namespace Go.Proofs.Ytebgleehmgmfbaa
open Go.RowKit Go.Lib

theorem Try.infoInt : (Try.prog.info? 3).map (fun i => (i.zero, i.size, i.bytes)) = some (some (.int .i64 0), 1, 8) := by kernel_rfl
abbrev nums (T : Nat) : List Value := (List.range T).map fun i : Nat => Value.int .i64 i
theorem nums_len (T : Nat) : (nums T).length = T := by simp [nums]
theorem nums_succ (T : Nat) : nums (T + 1) = nums T ++ [.int .i64 T] := by simp [nums, List.range_succ]
theorem nums_one (T : Nat) : ∀ u ∈ nums T, u.oneCell' = true := by intro u hu; simp [nums] at hu; obtain ⟨i, -, rfl⟩ := hu; rfl
theorem nums_cell {w : World} {base : Nat} {e : TypeId} {ao : Option Addr} {cap T : Nat} (h : w.ownsRow base e 1 (.slice ao T cap) T (nums T)) (i : Nat) (hi : i < T) : ∃ b off, ao = some ⟨b, off, none⟩ ∧ w.cell? ⟨b, off + i, none⟩ = some (.int .i64 i) := by
  obtain ⟨ao', b, off, cap', hv, -, -, -, ha, -, hc⟩ := own_cells (nums_one T) h
  simp only [Value.slice.injEq] at hv
  obtain ⟨rfl, -, rfl⟩ := hv
  refine ⟨b, off, ha (by simp [nums]; omega), ?_⟩
  have := hc i (by simp [nums]; omega)
  simpa [nums] using this

theorem on_at {l : List An} {k j : Nat} (he : (atA l k).err = 0) (hi : (atA l k).is = true) (hk : ¬ k = 0) (hj : j = k - 1) : decide (¬ onA l k) = decide ((atA l k).en ≤ (atA l j).en) := by
  subst hj
  unfold onA
  simp only [he, hi, hk, true_and, false_or, Int.not_lt]
theorem fo_field1 (b : Bool) (e f : Int) (ao : Option Addr) (n cap : Nat) (w : World) : (Instr.field 38 (.agg #[.bool b, .int .i64 e, .int .i64 f, .slice ao n cap]) 1).run Try.prog w = .ok (.int .i64 e) w := by kernel_rfl
theorem fo_field2 (b : Bool) (e f : Int) (ao : Option Addr) (n cap : Nat) (w : World) : (Instr.field 38 (.agg #[.bool b, .int .i64 e, .int .i64 f, .slice ao n cap]) 2).run Try.prog w = .ok (.int .i64 f) w := by kernel_rfl

set_option maxRecDepth 100000 in
set_option maxHeartbeats 4000000 in
theorem refFound_any (av : Value) {l : List An} {T : Nat} (w : World) (h : AnsAt w av l) (hl : l.length < 90000) (hT : Stops l T) :
    Calls Try.prog 14 #[av] w fun e w' => ∃ v, e = .returned (.tuple #[v, .int .i64 (T + 1 : Nat)]) ∧ w'.ownsRow w.heap.size 3 1 v T (nums T) ∧ Below w.heap.size w w' := by
  have hTl : T ≤ l.length := by
    rcases Nat.lt_or_ge l.length T with h | h
    · exact absurd (hT.1 _ h) (onA_end l)
    · exact h
  obtain ⟨aao, acap, rfl⟩ := h.val
  have H := Lib.hid h
  have HTs := Lib.hid hT
  have HTl := Lib.hid hTl
  have Hl := Lib.hid hl
  obtain ⟨z, hz⟩ : ∃ z, z = l.length := ⟨_, rfl⟩
  rw [← hz] at H HTl Hl ⊢
  clear h hT hTl hl hz
  obtain ⟨i0, hi, hz0, hz1, hz2⟩ := info_parts Try.infoInt
  go_enter Try.func14, Try.ntmps14
  go_wp2
  go_loopw [4, 5] (fun v4 v5 wr => ∃ k : Nat, k ≤ T ∧ v5 = .int .i64 k ∧ wr.ownsRow w.heap.size 3 1 v4 k (nums k) ∧ Below w.heap.size w wr) (fun _ i _ => T + 1 - (intOf i).toNat)
  case atStart => exact ⟨0, Nat.zero_le _, rfl, ⟨by simp, .inl ⟨rfl, rfl⟩⟩, Below.refl _ _⟩
  case round =>
    obtain ⟨k, hkT, rfl, hown, hbel⟩ := hrel
    obtain ⟨vo, vc, rfl⟩ := own_val hown
    have hkz : (k : Int) ≤ (z : Int) := by have := HTl.out; omega
    have hq : decide ((k : Int) ≤ (z : Int)) = true := by simpa using hkz
    have Hown := Lib.hid hown
    have Hbel := Lib.hid hbel
    have HkT := Lib.hid hkT
    have HA := Lib.hid (at_any _ l k wr (H.out.later hbel))
    obtain ⟨tao, tcap, hv⟩ := (atA_tw (H.out.later hbel) k).val
    have htw := atA_tw (H.out.later hbel) k
    rw [hv] at htw
    have Htw := Lib.hid htw
    have hav : anv (atA l k) = .agg #[.bool (atA l k).is, .int .i64 (atA l k).en, .int .i64 (atA l k).far, .slice tao (atA l k).tree.length tcap, .int .i64 (atA l k).err] := by unfold anv; rw [hv]
    rw [hav] at HA
    clear hown hbel hkT htw hv hav
    go_wp2_with fail
    refine HA.out.mono ?_
    rintro e w2 ⟨rfl, hb2⟩
    have Hb2 := Lib.hid (Hbel.out.trans (hb2.mono Hbel.out.size))
    have Hown2 := Lib.hid (row_keepT (T := []) (B := 0) (mp := false) Hown.out (KeepT.ofBelow hb2) (by simp))
    go_upto_region 6 with (fail)
    refine gen_world (S := fun u => Below w2.heap.size w2 u ∧ u.heap[w2.heap.size]? = some (.cells #[.bool (atA l k).is, .int .i64 (atA l k).en, .int .i64 (atA l k).far, .slice tao (atA l k).tree.length tcap, .int .i64 (atA l k).err] 53 (0, 0))) (one_new w2 _) (fun u hu => ?_)
    obtain ⟨hbu, hX⟩ := hu
    obtain ⟨x0, x1, x2, x3, x4, -⟩ := five_box hX
    have HX := Lib.hid hX
    have Hbu := Lib.hid (Hb2.out.trans (hbu.mono Hb2.out.size))
    have Hownu := Lib.hid (row_keepT (T := []) (B := 0) (mp := false) Hown2.out (KeepT.ofBelow hbu) (by simp))
    obtain ⟨X, hXe⟩ : ∃ X, X = w2.heap.size := ⟨_, rfl⟩
    rw [← hXe] at x0 x1 x2 x3 x4 HX ⊢
    clear hXe hbu hX Hb2 Hown2 HA hb2 hkz hq Hbel Hown
    have hkb : ((k : Nat) : Int) < 100000 := by have := HkT.out; have := HTl.out; have := Hl.out; omega
    go_cut [45] (fun t45 w1 => t45 = .bool (decide (¬ onA l k)) ∧ Below u.heap.size u w1)
    case first =>
      by_cases he : (atA l k).err = 0
      · have qe : ((atA l k).err == 0) = true := by rw [he]; rfl
        have qe2 : decide ((atA l k).err = 0) = true := by rw [he]; rfl
        have qe3 : ((atA l k).err != 0) = false := by rw [he]; rfl
        cases hi : (atA l k).is with
        | false =>
          have hn : ¬ onA l k := fun h => by have := h.2.1; rw [hi] at this; simp at this
          rw [hi] at x0
          have Hn := Lib.hid hn
          clear he hi hn
          go_region
          all_goals go_wp2_with fail
          all_goals go_meet
          all_goals exact ⟨by simp [Hn.out], (Below.refl _ _).drew⟩
        | true =>
          rw [hi] at x0
          by_cases hk0 : k = 0
          · have hn : onA l k := ⟨he, hi, .inl hk0⟩
            have q0 : decide ((0 : Int) < (k : Int)) = false := by simp; omega
            have q1 : decide (0 < k) = false := by simp; omega
            have Hn := Lib.hid hn
            clear he hi hn hk0
            go_region
            all_goals go_wp2_with fail
            all_goals go_meet
            all_goals exact ⟨by simp [Hn.out], (Below.refl _ _).drew⟩
          · have q0 : decide ((0 : Int) < (k : Int)) = true := by simp; omega
            have q1 : decide (0 < k) = true := by simp; omega
            obtain ⟨j, hj⟩ : ∃ j, j = k - 1 := ⟨_, rfl⟩
            have hw : IntKind.i64.wrap ((k : Int) - 1) = (j : Int) := (IntWalk.i64_in _ (by omega)).trans (by omega)
            have hjk : (j : Int) < (k : Int) := by omega
            obtain ⟨nb, no, rfl, n0⟩ := nums_cell Hownu.out j (by omega)
            have hX := HX.out
            rw [hi] at hX
            have HX1 := Lib.hid hX
            have HA2 := Lib.hid (fun (wq : World) (hb : Below w.heap.size w wq) => at_any _ l j wq (H.out.later hb))
            obtain ⟨tao2, tcap2, hv2⟩ := (atA_tw H.out j).val
            have hav2 : anv (atA l j) = .agg #[.bool (atA l j).is, .int .i64 (atA l j).en, .int .i64 (atA l j).far, .slice tao2 (atA l j).tree.length tcap2, .int .i64 (atA l j).err] := by unfold anv; rw [hv2]
            rw [hav2] at HA2
            have Hj := Lib.hid hj
            have Hk0 := Lib.hid hk0
            have Hi := Lib.hid hi
            have He := Lib.hid he
            have HDr := Lib.hid (Below.refl u.heap.size u).drew
            clear he hi hk0 hj hX hv2 hav2
            have q43 := an_field0
            have q44 := fo_field1
            refine wp_region_held_drew (S := fun wq => wq.heap[X]? = some (.cells #[.bool true, .int .i64 (atA l k).en, .int .i64 (atA l k).far, .slice tao (atA l k).tree.length tcap, .int .i64 (atA l k).err] 53 (0, 0)) ∧ wq.cell? ⟨nb, no + j, none⟩ = some (.int .i64 j) ∧ Below u.heap.size u wq) (by kernel_rfl) (⟨HX1.out, n0, HDr.out⟩) (fun hS => ?_)
            refine wpAnyH_take (i := 0) (oi := ⟨_, _, _, _, _, _⟩) (v := ?v1) rfl (by kernel_rfl) (by kernel_rfl) (by kernel_rfl) (fun _ _ _ h => h) ?y1 hS ?_
            case y1 => first | (refine Or.inr ⟨by rfl, ?_⟩; with_reducible rfl) | (refine Or.inl ⟨by rfl, ?_⟩; intro wS hSw; obtain ⟨x0S, x1S, -, -, x4S, -⟩ := five_box hSw.1; have n0S := hSw.2.1; go_simp; try with_reducible rfl)
            simp only [Act.put, List.setIfInBounds_toArray, List.set_cons_zero, List.set_cons_succ]
            refine wpAnyH_take (i := 1) (oi := ⟨_, _, _, _, _, _⟩) (v := ?v2) rfl (by kernel_rfl) (by kernel_rfl) (by kernel_rfl) (fun _ _ _ h => h) ?y2 hS ?_
            case y2 => first | (refine Or.inr ⟨by rfl, ?_⟩; with_reducible rfl) | (refine Or.inl ⟨by rfl, ?_⟩; intro wS hSw; obtain ⟨x0S, x1S, -, -, x4S, -⟩ := five_box hSw.1; have n0S := hSw.2.1; go_simp; try with_reducible rfl)
            simp only [Act.put, List.setIfInBounds_toArray, List.set_cons_zero, List.set_cons_succ]
            refine wpAnyH_take (i := 2) (oi := ⟨_, _, _, _, _, _⟩) (v := ?v3) rfl (by kernel_rfl) (by kernel_rfl) (by kernel_rfl) (fun _ _ _ h => h) ?y3 hS ?_
            case y3 => first | (refine Or.inr ⟨by rfl, ?_⟩; with_reducible rfl) | (refine Or.inl ⟨by rfl, ?_⟩; intro wS hSw; obtain ⟨x0S, x1S, -, -, x4S, -⟩ := five_box hSw.1; have n0S := hSw.2.1; go_simp; try with_reducible rfl)
            simp only [Act.put, List.setIfInBounds_toArray, List.set_cons_zero, List.set_cons_succ]
            refine wpAnyH_take (i := 3) (oi := ⟨_, _, _, _, _, _⟩) (v := ?v4) rfl (by kernel_rfl) (by kernel_rfl) (by kernel_rfl) (fun _ _ _ h => h) ?y4 hS ?_
            case y4 => first | (refine Or.inr ⟨by rfl, ?_⟩; with_reducible rfl) | (refine Or.inl ⟨by rfl, ?_⟩; intro wS hSw; obtain ⟨x0S, x1S, -, -, x4S, -⟩ := five_box hSw.1; have n0S := hSw.2.1; go_simp; try with_reducible rfl)
            simp only [Act.put, List.setIfInBounds_toArray, List.set_cons_zero, List.set_cons_succ]
            refine wpAnyH_take (i := 4) (oi := ⟨_, _, _, _, _, _⟩) (v := ?v5) rfl (by kernel_rfl) (by kernel_rfl) (by kernel_rfl) (fun _ _ _ h => h) ?y5 hS ?_
            case y5 => first | (refine Or.inr ⟨by rfl, ?_⟩; with_reducible rfl) | (refine Or.inl ⟨by rfl, ?_⟩; intro wS hSw; obtain ⟨x0S, x1S, -, -, x4S, -⟩ := five_box hSw.1; have n0S := hSw.2.1; go_simp; try with_reducible rfl)
            simp only [Act.put, List.setIfInBounds_toArray, List.set_cons_zero, List.set_cons_succ]
            refine wpAnyH_take (i := 5) (oi := ⟨_, _, _, _, _, _⟩) (v := ?v6) rfl (by kernel_rfl) (by kernel_rfl) (by kernel_rfl) (fun _ _ _ h => h) ?y6 hS ?_
            case y6 => first | (refine Or.inr ⟨by rfl, ?_⟩; with_reducible rfl) | (refine Or.inl ⟨by rfl, ?_⟩; intro wS hSw; obtain ⟨x0S, x1S, -, -, x4S, -⟩ := five_box hSw.1; have n0S := hSw.2.1; go_simp; try with_reducible rfl)
            simp only [Act.put, List.setIfInBounds_toArray, List.set_cons_zero, List.set_cons_succ]
            refine wpAnyH_take (i := 6) (oi := ⟨_, _, _, _, _, _⟩) (v := ?v7) rfl (by kernel_rfl) (by kernel_rfl) (by kernel_rfl) (fun _ _ _ h => h) ?y7 hS ?_
            case y7 => first | (refine Or.inr ⟨by rfl, ?_⟩; with_reducible rfl) | (refine Or.inl ⟨by rfl, ?_⟩; intro wS hSw; obtain ⟨x0S, x1S, -, -, x4S, -⟩ := five_box hSw.1; have n0S := hSw.2.1; go_simp; try with_reducible rfl)
            simp only [Act.put, List.setIfInBounds_toArray, List.set_cons_zero, List.set_cons_succ]
            refine wpAnyH_take (i := 7) (oi := ⟨_, _, _, _, _, _⟩) (v := ?v8) rfl (by kernel_rfl) (by kernel_rfl) (by kernel_rfl) (fun _ _ _ h => h) ?y8 hS ?_
            case y8 => first | (refine Or.inr ⟨by rfl, ?_⟩; with_reducible rfl) | (refine Or.inl ⟨by rfl, ?_⟩; intro wS hSw; obtain ⟨x0S, x1S, -, -, x4S, -⟩ := five_box hSw.1; have n0S := hSw.2.1; go_simp; try with_reducible rfl)
            simp only [Act.put, List.setIfInBounds_toArray, List.set_cons_zero, List.set_cons_succ]
            refine wpAnyH_take (i := 8) (oi := ⟨_, _, _, _, _, _⟩) (v := ?v9) rfl (by kernel_rfl) (by kernel_rfl) (by kernel_rfl) (fun _ _ _ h => h) ?y9 hS ?_
            case y9 => first | (refine Or.inr ⟨by rfl, ?_⟩; with_reducible rfl) | (refine Or.inl ⟨by rfl, ?_⟩; intro wS hSw; obtain ⟨x0S, x1S, -, -, x4S, -⟩ := five_box hSw.1; have n0S := hSw.2.1; go_simp; try with_reducible rfl)
            simp only [Act.put, List.setIfInBounds_toArray, List.set_cons_zero, List.set_cons_succ]
            refine wpAnyH_take (i := 9) (oi := ⟨_, _, _, _, _, _⟩) (v := ?v10) rfl (by kernel_rfl) (by kernel_rfl) (by kernel_rfl) (fun _ _ _ h => h) ?y10 hS ?_
            case y10 => first | (refine Or.inr ⟨by rfl, ?_⟩; with_reducible rfl) | (refine Or.inl ⟨by rfl, ?_⟩; intro wS hSw; obtain ⟨x0S, x1S, -, -, x4S, -⟩ := five_box hSw.1; have n0S := hSw.2.1; go_simp; try with_reducible rfl)
            simp only [Act.put, List.setIfInBounds_toArray, List.set_cons_zero, List.set_cons_succ]
            refine wpAnyH_take (i := 10) (oi := ⟨_, _, _, _, _, _⟩) (v := ?v11) rfl (by kernel_rfl) (by kernel_rfl) (by kernel_rfl) (fun _ _ _ h => h) ?y11 hS ?_
            case y11 => first | (refine Or.inr ⟨by rfl, ?_⟩; with_reducible rfl) | (refine Or.inl ⟨by rfl, ?_⟩; intro wS hSw; obtain ⟨x0S, x1S, -, -, x4S, -⟩ := five_box hSw.1; have n0S := hSw.2.1; go_simp; try with_reducible rfl)
            simp only [Act.put, List.setIfInBounds_toArray, List.set_cons_zero, List.set_cons_succ]
            refine wpAnyH_take (i := 11) (oi := ⟨_, _, _, _, _, _⟩) (v := ?v12) rfl (by kernel_rfl) (by kernel_rfl) (by kernel_rfl) (fun _ _ _ h => h) ?y12 hS ?_
            case y12 => first | (refine Or.inr ⟨by rfl, ?_⟩; with_reducible rfl) | (refine Or.inl ⟨by rfl, ?_⟩; intro wS hSw; obtain ⟨x0S, x1S, -, -, x4S, -⟩ := five_box hSw.1; have n0S := hSw.2.1; go_simp; try with_reducible rfl)
            simp only [Act.put, List.setIfInBounds_toArray, List.set_cons_zero, List.set_cons_succ]
            refine wpAnyH_take (i := 12) (oi := ⟨_, _, _, _, _, _⟩) (v := ?v13) rfl (by kernel_rfl) (by kernel_rfl) (by kernel_rfl) (fun _ _ _ h => h) ?y13 hS ?_
            case y13 => first | (refine Or.inr ⟨by rfl, ?_⟩; with_reducible rfl) | (refine Or.inl ⟨by rfl, ?_⟩; intro wS hSw; obtain ⟨x0S, x1S, -, -, x4S, -⟩ := five_box hSw.1; have n0S := hSw.2.1; go_simp; try with_reducible rfl)
            simp only [Act.put, List.setIfInBounds_toArray, List.set_cons_zero, List.set_cons_succ]
            refine wpAnyH_take (i := 13) (oi := ⟨_, _, _, _, _, _⟩) (v := ?v14) rfl (by kernel_rfl) (by kernel_rfl) (by kernel_rfl) (fun _ _ _ h => h) ?y14 hS ?_
            case y14 => first | (refine Or.inr ⟨by rfl, ?_⟩; with_reducible rfl) | (refine Or.inl ⟨by rfl, ?_⟩; intro wS hSw; obtain ⟨x0S, x1S, -, -, x4S, -⟩ := five_box hSw.1; have n0S := hSw.2.1; go_simp; try with_reducible rfl)
            simp only [Act.put, List.setIfInBounds_toArray, List.set_cons_zero, List.set_cons_succ]
            refine wpAnyH_take (i := 14) (oi := ⟨_, _, _, _, _, _⟩) (v := ?v15) rfl (by kernel_rfl) (by kernel_rfl) (by kernel_rfl) (fun _ _ _ h => h) ?y15 hS ?_
            case y15 => first | (refine Or.inr ⟨by rfl, ?_⟩; with_reducible rfl) | (refine Or.inl ⟨by rfl, ?_⟩; intro wS hSw; obtain ⟨x0S, x1S, -, -, x4S, -⟩ := five_box hSw.1; have n0S := hSw.2.1; go_simp; try with_reducible rfl)
            simp only [Act.put, List.setIfInBounds_toArray, List.set_cons_zero, List.set_cons_succ]
            refine wpAnyH_take (i := 15) (oi := ⟨_, _, _, _, _, _⟩) (v := ?v16) rfl (by kernel_rfl) (by kernel_rfl) (by kernel_rfl) (fun _ _ _ h => h) ?y16 hS ?_
            case y16 => first | (refine Or.inr ⟨by rfl, ?_⟩; with_reducible rfl) | (refine Or.inl ⟨by rfl, ?_⟩; intro wS hSw; obtain ⟨x0S, x1S, -, -, x4S, -⟩ := five_box hSw.1; have n0S := hSw.2.1; go_simp; try with_reducible rfl)
            simp only [Act.put, List.setIfInBounds_toArray, List.set_cons_zero, List.set_cons_succ]
            refine wpAnyH_take (i := 16) (oi := ⟨_, _, _, _, _, _⟩) (v := ?v17) rfl (by kernel_rfl) (by kernel_rfl) (by kernel_rfl) (fun _ _ _ h => h) ?y17 hS ?_
            case y17 => first | (refine Or.inr ⟨by rfl, ?_⟩; with_reducible rfl) | (refine Or.inl ⟨by rfl, ?_⟩; intro wS hSw; obtain ⟨x0S, x1S, -, -, x4S, -⟩ := five_box hSw.1; have n0S := hSw.2.1; go_simp; try with_reducible rfl)
            simp only [Act.put, List.setIfInBounds_toArray, List.set_cons_zero, List.set_cons_succ]
            refine wpAnyH_take (i := 17) (oi := ⟨_, _, _, _, _, _⟩) (v := ?v18) rfl (by kernel_rfl) (by kernel_rfl) (by kernel_rfl) (fun _ _ _ h => h) ?y18 hS ?_
            case y18 => first | (refine Or.inr ⟨by rfl, ?_⟩; with_reducible rfl) | (refine Or.inl ⟨by rfl, ?_⟩; intro wS hSw; obtain ⟨x0S, x1S, -, -, x4S, -⟩ := five_box hSw.1; have n0S := hSw.2.1; go_simp; try with_reducible rfl)
            simp only [Act.put, List.setIfInBounds_toArray, List.set_cons_zero, List.set_cons_succ]
            refine wpAnyH_take (i := 18) (oi := ⟨_, _, _, _, _, _⟩) (v := ?v19) rfl (by kernel_rfl) (by kernel_rfl) (by kernel_rfl) (fun _ _ _ h => h) ?y19 hS ?_
            case y19 => first | (refine Or.inr ⟨by rfl, ?_⟩; with_reducible rfl) | (refine Or.inl ⟨by rfl, ?_⟩; intro wS hSw; obtain ⟨x0S, x1S, -, -, x4S, -⟩ := five_box hSw.1; have n0S := hSw.2.1; go_simp; try with_reducible rfl)
            simp only [Act.put, List.setIfInBounds_toArray, List.set_cons_zero, List.set_cons_succ]
            refine wpAnyH_take (i := 19) (oi := ⟨_, _, _, _, _, _⟩) (v := ?v20) rfl (by kernel_rfl) (by kernel_rfl) (by kernel_rfl) (fun _ _ _ h => h) ?y20 hS ?_
            case y20 => first | (refine Or.inr ⟨by rfl, ?_⟩; with_reducible rfl) | (refine Or.inl ⟨by rfl, ?_⟩; intro wS hSw; obtain ⟨x0S, x1S, -, -, x4S, -⟩ := five_box hSw.1; have n0S := hSw.2.1; go_simp; try with_reducible rfl)
            simp only [Act.put, List.setIfInBounds_toArray, List.set_cons_zero, List.set_cons_succ]
            refine wpAnyH_take (i := 20) (oi := ⟨_, _, _, _, _, _⟩) (v := ?v21) rfl (by kernel_rfl) (by kernel_rfl) (by kernel_rfl) (fun _ _ _ h => h) ?y21 hS ?_
            case y21 => first | (refine Or.inr ⟨by rfl, ?_⟩; with_reducible rfl) | (refine Or.inl ⟨by rfl, ?_⟩; intro wS hSw; obtain ⟨x0S, x1S, -, -, x4S, -⟩ := five_box hSw.1; have n0S := hSw.2.1; go_simp; try with_reducible rfl)
            simp only [Act.put, List.setIfInBounds_toArray, List.set_cons_zero, List.set_cons_succ]
            refine wpAnyH_take (i := 21) (oi := ⟨_, _, _, _, _, _⟩) (v := ?v22) rfl (by kernel_rfl) (by kernel_rfl) (by kernel_rfl) (fun _ _ _ h => h) ?y22 hS ?_
            case y22 => first | (refine Or.inr ⟨by rfl, ?_⟩; with_reducible rfl) | (refine Or.inl ⟨by rfl, ?_⟩; intro wS hSw; obtain ⟨x0S, x1S, -, -, x4S, -⟩ := five_box hSw.1; have n0S := hSw.2.1; go_simp; try with_reducible rfl)
            simp only [Act.put, List.setIfInBounds_toArray, List.set_cons_zero, List.set_cons_succ]
            refine wpAnyH_take (i := 22) (oi := ⟨_, _, _, _, _, _⟩) (v := ?v23) rfl (by kernel_rfl) (by kernel_rfl) (by kernel_rfl) (fun _ _ _ h => h) ?y23 hS ?_
            case y23 => first | (refine Or.inr ⟨by rfl, ?_⟩; with_reducible rfl) | (refine Or.inl ⟨by rfl, ?_⟩; intro wS hSw; obtain ⟨x0S, x1S, -, -, x4S, -⟩ := five_box hSw.1; have n0S := hSw.2.1; go_simp; try with_reducible rfl)
            simp only [Act.put, List.setIfInBounds_toArray, List.set_cons_zero, List.set_cons_succ]
            refine wpAnyH_take (i := 23) (oi := ⟨_, _, _, _, _, _⟩) (v := ?v24) rfl (by kernel_rfl) (by kernel_rfl) (by kernel_rfl) (fun _ _ _ h => h) ?y24 hS ?_
            case y24 => first | (refine Or.inr ⟨by rfl, ?_⟩; with_reducible rfl) | (refine Or.inl ⟨by rfl, ?_⟩; intro wS hSw; obtain ⟨x0S, x1S, -, -, x4S, -⟩ := five_box hSw.1; have n0S := hSw.2.1; go_simp; try with_reducible rfl)
            simp only [Act.put, List.setIfInBounds_toArray, List.set_cons_zero, List.set_cons_succ]
            refine wpAnyH_ready (rs := [24]) (by kernel_rfl) (by simp) ?_
            refine AllReadyH.cons (o := ⟨_, _, _, _, _, _⟩) rfl (fun K hK => ?_) AllReadyH.nil
            go_simp
            refine (HA2.out _ (Hbu.out.trans (hS.2.2.mono Hbu.out.size))).mono ?_
            rintro e wx ⟨rfl, hbx⟩
            have hS : wx.heap[X]? = some (.cells #[.bool true, .int .i64 (atA l k).en, .int .i64 (atA l k).far, .slice tao (atA l k).tree.length tcap, .int .i64 (atA l k).err] 53 (0, 0)) ∧ wx.cell? ⟨nb, no + j, none⟩ = some (.int .i64 j) ∧ Below u.heap.size u wx := ⟨(hbx.block _ (lt_of_block hS.1)).trans hS.1, cell_later hbx hS.2.1, hS.2.2.trans (hbx.mono hS.2.2.size)⟩
            go_wp2_with fail
            refine hK.out _ _ hS (fun _ => ?_)
            clear hK K
            try simp only [Act.put, List.setIfInBounds_toArray, List.set_cons_zero, List.set_cons_succ]
            refine wpAnyH_take (i := 25) (oi := ⟨_, _, _, _, _, _⟩) (v := ?v25) rfl (by kernel_rfl) (by kernel_rfl) (by kernel_rfl) (fun _ _ _ h => h) ?y25 hS ?_
            case y25 => first | (refine Or.inr ⟨by rfl, ?_⟩; with_reducible rfl) | (refine Or.inl ⟨by rfl, ?_⟩; intro wS hSw; obtain ⟨x0S, x1S, -, -, x4S, -⟩ := five_box hSw.1; have n0S := hSw.2.1; go_simp; try with_reducible rfl)
            simp only [Act.put, List.setIfInBounds_toArray, List.set_cons_zero, List.set_cons_succ]
            refine wpAnyH_take (i := 26) (oi := ⟨_, _, _, _, _, _⟩) (v := ?v26) rfl (by kernel_rfl) (by kernel_rfl) (by kernel_rfl) (fun _ _ _ h => h) ?y26 hS ?_
            case y26 => first | (refine Or.inr ⟨by rfl, ?_⟩; with_reducible rfl) | (refine Or.inl ⟨by rfl, ?_⟩; intro wS hSw; obtain ⟨x0S, x1S, -, -, x4S, -⟩ := five_box hSw.1; have n0S := hSw.2.1; go_simp; try with_reducible rfl)
            simp only [Act.put, List.setIfInBounds_toArray, List.set_cons_zero, List.set_cons_succ]
            refine wpAnyH_take (i := 27) (oi := ⟨_, _, _, _, _, _⟩) (v := ?v27) rfl (by kernel_rfl) (by kernel_rfl) (by kernel_rfl) (fun _ _ _ h => h) ?y27 hS ?_
            case y27 => first | (refine Or.inr ⟨by rfl, ?_⟩; with_reducible rfl) | (refine Or.inl ⟨by rfl, ?_⟩; intro wS hSw; obtain ⟨x0S, x1S, -, -, x4S, -⟩ := five_box hSw.1; have n0S := hSw.2.1; go_simp; try with_reducible rfl)
            simp only [Act.put, List.setIfInBounds_toArray, List.set_cons_zero, List.set_cons_succ]
            refine wpAnyH_take (i := 28) (oi := ⟨_, _, _, _, _, _⟩) (v := ?v28) rfl (by kernel_rfl) (by kernel_rfl) (by kernel_rfl) (fun _ _ _ h => h) ?y28 hS ?_
            case y28 => first | (refine Or.inr ⟨by rfl, ?_⟩; with_reducible rfl) | (refine Or.inl ⟨by rfl, ?_⟩; intro wS hSw; obtain ⟨x0S, x1S, -, -, x4S, -⟩ := five_box hSw.1; have n0S := hSw.2.1; go_simp; try with_reducible rfl)
            simp only [Act.put, List.setIfInBounds_toArray, List.set_cons_zero, List.set_cons_succ]
            refine wpAnyH_take (i := 29) (oi := ⟨_, _, _, _, _, _⟩) (v := ?v29) rfl (by kernel_rfl) (by kernel_rfl) (by kernel_rfl) (fun _ _ _ h => h) ?y29 hS ?_
            case y29 => first | (refine Or.inr ⟨by rfl, ?_⟩; with_reducible rfl) | (refine Or.inl ⟨by rfl, ?_⟩; intro wS hSw; obtain ⟨x0S, x1S, -, -, x4S, -⟩ := five_box hSw.1; have n0S := hSw.2.1; go_simp; try with_reducible rfl)
            simp only [Act.put, List.setIfInBounds_toArray, List.set_cons_zero, List.set_cons_succ]
            refine wpAnyH_done (by kernel_rfl) ?_ _
            go_wp2_with fail
            go_meet
            exact ⟨congrArg Value.bool (on_at He.out Hi.out Hk0.out Hj.out).symm, hS.2.2⟩
      · have qe : ((atA l k).err == 0) = false := by simpa using he
        have qe2 : decide ((atA l k).err = 0) = false := by simpa using he
        have qe3 : ((atA l k).err != 0) = true := by simpa using he
        have hn : ¬ onA l k := fun h => he h.1
        have Hn := Lib.hid hn
        clear he hn
        go_region
        all_goals go_wp2_with fail
        all_goals go_meet
        all_goals exact ⟨by simp [Hn.out], (Below.refl _ _).drew⟩
    case rest =>
      obtain ⟨ht, hbc⟩ := hcut
      have Hbc := Lib.hid (Hbu.out.trans (hbc.mono Hbu.out.size))
      have Hownc := Lib.hid (row_keepT (T := []) (B := 0) (mp := false) Hownu.out (KeepT.ofBelow hbc) (by simp))
      clear hbc x0 x1 x2 x3 x4 HX Hbu Hownu
      by_cases hn : onA l k
      · have hkT : k < T := by
          rcases Nat.lt_or_ge k T with h | h
          · exact h
          · have := HkT.out
            have : k = T := by omega
            subst this
            exact absurd hn HTs.out.2
        have ht2 := ht.trans (congrArg Value.bool (decide_eq_false (fun h => h hn)))
        clear ht
        subst ht2
        have HkT := Lib.hid hkT
        have hw : IntKind.i64.wrap ((k : Int) + 1) = (k : Int) + 1 := IntWalk.i64_in _ (by omega)
        clear hn hkT
        go_upto_region 8 with (fail)
        go_wp2_with (at_builtin; refine wpList_append_mine _ rfl (.tmp 49) (.tmp 51) 45 rfl w.heap.size 3 i0 (.int .i64 0) 1 8 Try.underlying45 hi hz0 hz1 hz2 rfl (by decide) (.slice vo k vc) k (nums k) rfl (Hownc.out.alloc _) (some ⟨wc.heap.size, 0, none⟩) 1 1 [.int .i64 k] rfl (by simp) (by simp) (fun ad e j u hj => by cases e; exact cell_new_list wc [.int .i64 k] 3 j u hj) (by intro u hu; simp at hu; subst hu; rfl) (by unfold maxLen; omega) (by omega) (by have := Hbc.out.size; simp; omega) ?_; intro v2 w3 hown3 hg3 hfr3; have hb3 := (Hbc.out.alloc Hbc.out.size _).grown hg3 (by have := Hbc.out.size; simp; omega) (fun k hk => (Hownc.out.lt k hk).1); have Hown3 := Lib.hid hown3; have Hb3 := Lib.hid hb3; clear hown3 hg3 hfr3 hb3)
        go_roundw
        case rel => exact ⟨k + 1, HkT.out, by go_num, by rw [nums_succ]; exact Hown3.out, Hb3.out⟩
        case measure => have := HkT.out; simp [intOf]; omega
      · have hkT : k = T := by
          rcases Nat.lt_or_ge k T with h | h
          · exact absurd (HTs.out.1 k h) hn
          · have := HkT.out; omega
        have ht2 := ht.trans (congrArg Value.bool (decide_eq_true hn))
        clear ht
        subst ht2
        have hw : IntKind.i64.wrap ((k : Int) + 1) = (k : Int) + 1 := IntWalk.i64_in _ (by omega)
        have HkE := Lib.hid hkT
        clear hn hkT
        go_wp2
        refine bodyPost_ret (v := .tuple #[.slice vo k vc, .int .i64 ((k : Int) + 1)]) (by simp [results, Try.f14, go_sem]) rfl ?_
        rw [← HkE.out]
        exact ⟨_, rfl, Hownc.out, Hbc.out⟩
end Go.Proofs.Ytebgleehmgmfbaa
