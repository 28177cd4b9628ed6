/-
  Chapter far: FarSmall: the walk.
-/
import Derived.Test.YtfhgmnlhmfnckaaSmall
namespace Go.Proofs.Ytfhgmnlhmfnckaa
open Go.RowKit Go.Lib

set_option maxRecDepth 100000 in
set_option maxHeartbeats 40000000 in
theorem farSmall_main (w : World) :
    Calls Try.prog 7 #[] w fun e w' => e = .returned (.bool true) ∧ Below w.heap.size w w' := by
  go_enter Try.func7, Try.ntmps7
  go_wp2
  go_loopw [1, 2, 3, 4] (fun i _ _ _ wr => ∃ n : Nat, n ≤ 7776 ∧ i = .int .i64 n ∧ Below w.heap.size w wr) (fun i _ _ _ _ => 7776 - (intOf i).toNat)
  case atStart => exact ⟨0, by omega, rfl, Below.refl _ _⟩
  case round =>
    obtain ⟨n, hn, rfl, hB⟩ := hrel
    have HB := Lib.hid hB
    clear hB
    by_cases hlt : n < 7776
    · have hlI : (n : Int) < 7776 := by omega
      go_wp2
      go_loopw [2, 3, 4] (fun lv mm j w9 => ∃ (k m : Nat) (l : List Deed), k ≤ 5 ∧ m ≤ 7776 ∧ j = .int .i64 k ∧ mm = .int .i64 m ∧ l.length = k ∧ w9.ownsRow w.heap.size 55 7 lv k (dcells l) ∧ (∀ d ∈ l, DeedOk d) ∧ Below w.heap.size w w9) (fun _ _ j _ => 5 - (intOf j).toNat)
      case atStart => exact ⟨0, n, [], by omega, by omega, rfl, rfl, rfl, World.ownsRow_nil _ _ _ _, fun d hd => by simp at hd, HB.out⟩
      case round =>
        obtain ⟨k, m, l, hk, hm, rfl, rfl, hlk, hown, hok, hbl⟩ := hrel
        have HL := Lib.hid hlk
        have HO := Lib.hid hown
        have HK := Lib.hid hok
        have HW := Lib.hid hbl
        clear hlk hown hok hbl HB
        by_cases hlk : k < 5
        · have hkI : (k : Int) < 5 := by omega
          go_upto_region 9 with (fail)
          have w7 : IntKind.i64.wrap ((n : Int) / 7) = (n : Int) / 7 := IntWalk.i64_in _ (by omega)
          have w5 : IntKind.i64.wrap ((n : Int) / 5) = (n : Int) / 5 := IntWalk.i64_in _ (by omega)
          obtain ⟨kk, wk, hkk⟩ : ∃ kk : Nat, IntKind.i64.wrap ((k : Int) * k) = (kk : Int) ∧ kk ≤ 16 := by
            rcases (by omega : k = 0 ∨ k = 1 ∨ k = 2 ∨ k = 3 ∨ k = 4) with rfl | rfl | rfl | rfl | rfl
            · exact ⟨0, by decide, by omega⟩
            · exact ⟨1, by decide, by omega⟩
            · exact ⟨4, by decide, by omega⟩
            · exact ⟨9, by decide, by omega⟩
            · exact ⟨16, by decide, by omega⟩
          have w8 : IntKind.i64.wrap ((n : Int) / 7 + kk) = (n : Int) / 7 + kk := IntWalk.i64_in _ (by omega)
          obtain ⟨i0, t9, hi0⟩ : ∃ i0 : Nat, ((n : Int) / 7 + kk).tmod 5 = (i0 : Int) ∧ i0 < 5 := by
            have h := Int.tmod_eq_emod_of_nonneg (a := (n : Int) / 7 + kk) (b := 5) (by omega)
            exact ⟨(((n : Int) / 7 + kk) % 5).toNat, by rw [h]; omega, by omega⟩
          have w10 : IntKind.i64.wrap ((i0 : Int) - 1) = (i0 : Int) - 1 := IntWalk.i64_in _ (by omega)
          have w14 : IntKind.i64.wrap ((n : Int) + k) = (n : Int) + k := IntWalk.i64_in _ (by omega)
          obtain ⟨i1, t15, hi1⟩ : ∃ i1 : Nat, ((n : Int) + k).tmod 4 = (i1 : Int) ∧ i1 < 4 := by
            have h := Int.tmod_eq_emod_of_nonneg (a := (n : Int) + k) (b := 4) (by omega)
            exact ⟨(((n : Int) + k) % 4).toNat, by rw [h]; omega, by omega⟩
          have w23 : IntKind.i64.wrap ((n : Int) / 5 + k) = (n : Int) / 5 + k := IntWalk.i64_in _ (by omega)
          obtain ⟨i2, t24, hi2⟩ : ∃ i2 : Nat, ((n : Int) / 5 + k).tmod 4 = (i2 : Int) ∧ i2 < 4 := by
            have h := Int.tmod_eq_emod_of_nonneg (a := (n : Int) / 5 + k) (b := 4) (by omega)
            exact ⟨(((n : Int) / 5 + k) % 4).toNat, by rw [h]; omega, by omega⟩
          obtain ⟨i6, t2, hi6⟩ : ∃ i6 : Nat, (m : Int).tmod 6 = (i6 : Int) ∧ i6 < 6 := by
            have h := Int.tmod_eq_emod_of_nonneg (a := (m : Int)) (b := 6) (by omega)
            exact ⟨((m : Int) % 6).toNat, by rw [h]; omega, by omega⟩
          have hi1I : (i1 : Int) < 4 := by omega
          have hi2I : (i2 : Int) < 4 := by omega
          obtain ⟨nfo, hinfo, hz0, hz1, hz2⟩ := info_parts Try.infoDeed
          have w6 : IntKind.i64.wrap ((m : Int) / 6) = ((m / 6 : Nat) : Int) := by rw [IntWalk.i64_in _ (by omega)]; omega
          have hD : DeedOk ⟨i6, (i0 : Int) - 1, clOf (tabA i1).data.toList, tabB i2⟩ := ⟨⟨by show _ ≤ ((i6 : Nat) : Int); omega, by show ((i6 : Nat) : Int) ≤ _; omega⟩, ⟨by show _ ≤ (i0 : Int) - 1; omega, by show (i0 : Int) - 1 ≤ _; omega⟩, by show (tabB i2).size ≤ _; have := tabB_size i2; unfold reachBytes; omega⟩
          have HD := Lib.hid hD
          clear hD
          refine wp_region_held_drew (S := fun _ => True) (by kernel_rfl) trivial (fun hS => ?_)
          refine wpAnyH_take (i := 0) (oi := ⟨_, _, _, _, _, _⟩) (v := ?v1) rfl (by kernel_rfl) (by kernel_rfl) (by kernel_rfl) (fun _ _ _ h => h) ?y1 hS ?_
          case y1 => first | (refine Or.inr ⟨by rfl, ?_⟩; with_reducible rfl) | (refine Or.inl ⟨by rfl, ?_⟩; intro wS hSw; go_simp; try with_reducible rfl)
          simp only [Act.put, List.setIfInBounds_toArray, List.set_cons_zero, List.set_cons_succ]
          refine wpAnyH_take (i := 1) (oi := ⟨_, _, _, _, _, _⟩) (v := ?v2) rfl (by kernel_rfl) (by kernel_rfl) (by kernel_rfl) (fun _ _ _ h => h) ?y2 hS ?_
          case y2 => first | (refine Or.inr ⟨by rfl, ?_⟩; with_reducible rfl) | (refine Or.inl ⟨by rfl, ?_⟩; intro wS hSw; go_simp; try with_reducible rfl)
          simp only [Act.put, List.setIfInBounds_toArray, List.set_cons_zero, List.set_cons_succ]
          refine wpAnyH_take (i := 2) (oi := ⟨_, _, _, _, _, _⟩) (v := ?v3) rfl (by kernel_rfl) (by kernel_rfl) (by kernel_rfl) (fun _ _ _ h => h) ?y3 hS ?_
          case y3 => first | (refine Or.inr ⟨by rfl, ?_⟩; with_reducible rfl) | (refine Or.inl ⟨by rfl, ?_⟩; intro wS hSw; go_simp; try with_reducible rfl)
          simp only [Act.put, List.setIfInBounds_toArray, List.set_cons_zero, List.set_cons_succ]
          try simp only [t2]
          refine wpAnyH_take (i := 3) (oi := ⟨_, _, _, _, _, _⟩) (v := ?v4) rfl (by kernel_rfl) (by kernel_rfl) (by kernel_rfl) (fun _ _ _ h => h) ?y4 hS ?_
          case y4 => first | (refine Or.inr ⟨by rfl, ?_⟩; with_reducible rfl) | (refine Or.inl ⟨by rfl, ?_⟩; intro wS hSw; go_simp; try with_reducible rfl)
          simp only [Act.put, List.setIfInBounds_toArray, List.set_cons_zero, List.set_cons_succ]
          refine wpAnyH_take (i := 4) (oi := ⟨_, _, _, _, _, _⟩) (v := ?v5) rfl (by kernel_rfl) (by kernel_rfl) (by kernel_rfl) (fun _ _ _ h => h) ?y5 hS ?_
          case y5 => first | (refine Or.inr ⟨by rfl, ?_⟩; with_reducible rfl) | (refine Or.inl ⟨by rfl, ?_⟩; intro wS hSw; go_simp; try with_reducible rfl)
          simp only [Act.put, List.setIfInBounds_toArray, List.set_cons_zero, List.set_cons_succ]
          try simp only [w7]
          refine wpAnyH_take (i := 5) (oi := ⟨_, _, _, _, _, _⟩) (v := ?v6) rfl (by kernel_rfl) (by kernel_rfl) (by kernel_rfl) (fun _ _ _ h => h) ?y6 hS ?_
          case y6 => first | (refine Or.inr ⟨by rfl, ?_⟩; with_reducible rfl) | (refine Or.inl ⟨by rfl, ?_⟩; intro wS hSw; go_simp; try with_reducible rfl)
          simp only [Act.put, List.setIfInBounds_toArray, List.set_cons_zero, List.set_cons_succ]
          refine wpAnyH_take (i := 6) (oi := ⟨_, _, _, _, _, _⟩) (v := ?v7) rfl (by kernel_rfl) (by kernel_rfl) (by kernel_rfl) (fun _ _ _ h => h) ?y7 hS ?_
          case y7 => first | (refine Or.inr ⟨by rfl, ?_⟩; with_reducible rfl) | (refine Or.inl ⟨by rfl, ?_⟩; intro wS hSw; go_simp; try with_reducible rfl)
          simp only [Act.put, List.setIfInBounds_toArray, List.set_cons_zero, List.set_cons_succ]
          refine wpAnyH_take (i := 7) (oi := ⟨_, _, _, _, _, _⟩) (v := ?v8) rfl (by kernel_rfl) (by kernel_rfl) (by kernel_rfl) (fun _ _ _ h => h) ?y8 hS ?_
          case y8 => first | (refine Or.inr ⟨by rfl, ?_⟩; with_reducible rfl) | (refine Or.inl ⟨by rfl, ?_⟩; intro wS hSw; go_simp; try with_reducible rfl)
          simp only [Act.put, List.setIfInBounds_toArray, List.set_cons_zero, List.set_cons_succ]
          try simp only [wk]
          refine wpAnyH_take (i := 8) (oi := ⟨_, _, _, _, _, _⟩) (v := ?v9) rfl (by kernel_rfl) (by kernel_rfl) (by kernel_rfl) (fun _ _ _ h => h) ?y9 hS ?_
          case y9 => first | (refine Or.inr ⟨by rfl, ?_⟩; with_reducible rfl) | (refine Or.inl ⟨by rfl, ?_⟩; intro wS hSw; go_simp; try with_reducible rfl)
          simp only [Act.put, List.setIfInBounds_toArray, List.set_cons_zero, List.set_cons_succ]
          try simp only [w8]
          refine wpAnyH_take (i := 9) (oi := ⟨_, _, _, _, _, _⟩) (v := ?v10) rfl (by kernel_rfl) (by kernel_rfl) (by kernel_rfl) (fun _ _ _ h => h) ?y10 hS ?_
          case y10 => first | (refine Or.inr ⟨by rfl, ?_⟩; with_reducible rfl) | (refine Or.inl ⟨by rfl, ?_⟩; intro wS hSw; go_simp; try with_reducible rfl)
          simp only [Act.put, List.setIfInBounds_toArray, List.set_cons_zero, List.set_cons_succ]
          try simp only [t9]
          refine wpAnyH_take (i := 10) (oi := ⟨_, _, _, _, _, _⟩) (v := ?v11) rfl (by kernel_rfl) (by kernel_rfl) (by kernel_rfl) (fun _ _ _ h => h) ?y11 hS ?_
          case y11 => first | (refine Or.inr ⟨by rfl, ?_⟩; with_reducible rfl) | (refine Or.inl ⟨by rfl, ?_⟩; intro wS hSw; go_simp; try with_reducible rfl)
          simp only [Act.put, List.setIfInBounds_toArray, List.set_cons_zero, List.set_cons_succ]
          try simp only [w10]
          refine wpAnyH_take (i := 12) (oi := ⟨_, _, _, _, _, _⟩) (v := ?v12) rfl (by kernel_rfl) (by kernel_rfl) (by kernel_rfl) (fun _ _ _ h => h) ?y12 hS ?_
          case y12 => first | (refine Or.inr ⟨by rfl, ?_⟩; with_reducible rfl) | (refine Or.inl ⟨by rfl, ?_⟩; intro wS hSw; go_simp; try with_reducible rfl)
          simp only [Act.put, List.setIfInBounds_toArray, List.set_cons_zero, List.set_cons_succ]
          refine wpAnyH_take (i := 13) (oi := ⟨_, _, _, _, _, _⟩) (v := ?v13) rfl (by kernel_rfl) (by kernel_rfl) (by kernel_rfl) (fun _ _ _ h => h) ?y13 hS ?_
          case y13 => first | (refine Or.inr ⟨by rfl, ?_⟩; with_reducible rfl) | (refine Or.inl ⟨by rfl, ?_⟩; intro wS hSw; go_simp; try with_reducible rfl)
          simp only [Act.put, List.setIfInBounds_toArray, List.set_cons_zero, List.set_cons_succ]
          refine wpAnyH_take (i := 14) (oi := ⟨_, _, _, _, _, _⟩) (v := ?v14) rfl (by kernel_rfl) (by kernel_rfl) (by kernel_rfl) (fun _ _ _ h => h) ?y14 hS ?_
          case y14 => first | (refine Or.inr ⟨by rfl, ?_⟩; with_reducible rfl) | (refine Or.inl ⟨by rfl, ?_⟩; intro wS hSw; go_simp; try with_reducible rfl)
          simp only [Act.put, List.setIfInBounds_toArray, List.set_cons_zero, List.set_cons_succ]
          try simp only [w14]
          refine wpAnyH_take (i := 15) (oi := ⟨_, _, _, _, _, _⟩) (v := ?v15) rfl (by kernel_rfl) (by kernel_rfl) (by kernel_rfl) (fun _ _ _ h => h) ?y15 hS ?_
          case y15 => first | (refine Or.inr ⟨by rfl, ?_⟩; with_reducible rfl) | (refine Or.inl ⟨by rfl, ?_⟩; intro wS hSw; go_simp; try with_reducible rfl)
          simp only [Act.put, List.setIfInBounds_toArray, List.set_cons_zero, List.set_cons_succ]
          try simp only [t15]
          refine wpAnyH_take (i := 20) (oi := ⟨_, _, _, _, _, _⟩) (v := ?v16) rfl (by kernel_rfl) (by kernel_rfl) (by kernel_rfl) (fun _ _ _ h => h) ?y16 hS ?_
          case y16 => first | (refine Or.inr ⟨by rfl, ?_⟩; with_reducible rfl) | (refine Or.inl ⟨by rfl, ?_⟩; intro wS hSw; go_simp; try with_reducible rfl)
          simp only [Act.put, List.setIfInBounds_toArray, List.set_cons_zero, List.set_cons_succ]
          refine wpAnyH_take (i := 21) (oi := ⟨_, _, _, _, _, _⟩) (v := ?v17) rfl (by kernel_rfl) (by kernel_rfl) (by kernel_rfl) (fun _ _ _ h => h) ?y17 hS ?_
          case y17 => first | (refine Or.inr ⟨by rfl, ?_⟩; with_reducible rfl) | (refine Or.inl ⟨by rfl, ?_⟩; intro wS hSw; go_simp; try with_reducible rfl)
          simp only [Act.put, List.setIfInBounds_toArray, List.set_cons_zero, List.set_cons_succ]
          try simp only [w5]
          refine wpAnyH_take (i := 22) (oi := ⟨_, _, _, _, _, _⟩) (v := ?v18) rfl (by kernel_rfl) (by kernel_rfl) (by kernel_rfl) (fun _ _ _ h => h) ?y18 hS ?_
          case y18 => first | (refine Or.inr ⟨by rfl, ?_⟩; with_reducible rfl) | (refine Or.inl ⟨by rfl, ?_⟩; intro wS hSw; go_simp; try with_reducible rfl)
          simp only [Act.put, List.setIfInBounds_toArray, List.set_cons_zero, List.set_cons_succ]
          refine wpAnyH_take (i := 23) (oi := ⟨_, _, _, _, _, _⟩) (v := ?v19) rfl (by kernel_rfl) (by kernel_rfl) (by kernel_rfl) (fun _ _ _ h => h) ?y19 hS ?_
          case y19 => first | (refine Or.inr ⟨by rfl, ?_⟩; with_reducible rfl) | (refine Or.inl ⟨by rfl, ?_⟩; intro wS hSw; go_simp; try with_reducible rfl)
          simp only [Act.put, List.setIfInBounds_toArray, List.set_cons_zero, List.set_cons_succ]
          try simp only [w23]
          refine wpAnyH_take (i := 24) (oi := ⟨_, _, _, _, _, _⟩) (v := ?v20) rfl (by kernel_rfl) (by kernel_rfl) (by kernel_rfl) (fun _ _ _ h => h) ?y20 hS ?_
          case y20 => first | (refine Or.inr ⟨by rfl, ?_⟩; with_reducible rfl) | (refine Or.inl ⟨by rfl, ?_⟩; intro wS hSw; go_simp; try with_reducible rfl)
          simp only [Act.put, List.setIfInBounds_toArray, List.set_cons_zero, List.set_cons_succ]
          try simp only [t24]
          refine wpAnyH_gen (S' := TT none none) (T := fun w1 => RG wr w1 none none) (fun _ _ => trivial) (RG.start wr) (fun wv hG => ?_)
          have hS := hG.tt
          have HG := Lib.hid hG
          clear hG
          refine wpAnyH_ready (rs := [11, 19]) (by kernel_rfl) (by simp) ?_
          refine AllReadyH.cons (o := ⟨_, _, _, _, _, _⟩) rfl (fun K hK => ?_) (AllReadyH.cons (o := ⟨_, _, _, _, _, _⟩) rfl (fun K hK => ?_) AllReadyH.nil)
          · go_simp
            refine hK.out _ _ (HG.out.tt.later ((Below.refl _ _).alloc (Nat.le_refl _) _)) (fun _ => ?_)
            clear hK K
            try simp only [Act.put, List.setIfInBounds_toArray, List.set_cons_zero, List.set_cons_succ]
            obtain ⟨x1, hx1⟩ : ∃ x1, x1 = wv.heap.size := ⟨_, rfl⟩
            rw [← hx1]
            refine wpAnyH_gen (S' := TT (some x1) none) (T := fun w1 => RG wr w1 (some x1) none) (fun w1 => TT.less1 w1) (by rw [hx1]; exact HG.out.allocA) (fun wv hG => ?_)
            have hS := hG.tt
            have HG := Lib.hid hG
            clear hG hx1
            refine wpAnyH_take (i := 16) (oi := ⟨_, _, _, _, _, _⟩) (v := ?v21) rfl (by kernel_rfl) (by kernel_rfl) (by kernel_rfl) (fun _ _ _ h => h) ?y21 hS ?_
            case y21 => first | (refine Or.inr ⟨by rfl, ?_⟩; with_reducible rfl) | (refine Or.inl ⟨by rfl, ?_⟩; intro wS hSw; have hq := tab_cell (hSw.ta x1 rfl) hi1; go_simp; try with_reducible rfl)
            simp only [Act.put, List.setIfInBounds_toArray, List.set_cons_zero, List.set_cons_succ]
            refine wpAnyH_take (i := 17) (oi := ⟨_, _, _, _, _, _⟩) (v := ?v22) rfl (by kernel_rfl) (by kernel_rfl) (by kernel_rfl) (fun _ _ _ h => h) ?y22 hS ?_
            case y22 => first | (refine Or.inr ⟨by rfl, ?_⟩; with_reducible rfl) | (refine Or.inl ⟨by rfl, ?_⟩; intro wS hSw; have hq := tab_cell (hSw.ta x1 rfl) hi1; go_simp; try with_reducible rfl)
            simp only [Act.put, List.setIfInBounds_toArray, List.set_cons_zero, List.set_cons_succ]
            refine wpAnyH_ready (rs := [18, 19]) (by kernel_rfl) (by simp) ?_
            refine AllReadyH.cons (o := ⟨_, _, _, _, _, _⟩) rfl (fun K hK => ?_) (AllReadyH.cons (o := ⟨_, _, _, _, _, _⟩) rfl (fun K hK => ?_) AllReadyH.nil)
            · go_simp
              refine (law_ofA _ _ (by have := tabA_size i1; omega)).mono ?_
              rintro e wn ⟨rfl, hb⟩
              go_wp2_with fail
              refine hK.out _ _ (HG.out.tt.later hb) (fun hS => ?_)
              clear hK K
              try simp only [Act.put, List.setIfInBounds_toArray, List.set_cons_zero, List.set_cons_succ]
              have HG := Lib.hid (HG.out.later hb)
              clear hb
              obtain ⟨wv, hwv⟩ : ∃ wv, wv = wn := ⟨_, rfl⟩
              rw [← hwv] at HG hS ⊢
              clear hwv
              refine wpAnyH_ready (rs := [19]) (by kernel_rfl) (by simp) ?_
              refine AllReadyH.cons (o := ⟨_, _, _, _, _, _⟩) rfl (fun K hK => ?_) AllReadyH.nil
              go_simp
              refine hK.out _ _ (HG.out.tt.later ((Below.refl _ _).alloc (Nat.le_refl _) _)) (fun _ => ?_)
              clear hK K
              try simp only [Act.put, List.setIfInBounds_toArray, List.set_cons_zero, List.set_cons_succ]
              obtain ⟨x2, hx2⟩ : ∃ x2, x2 = wv.heap.size := ⟨_, rfl⟩
              rw [← hx2]
              refine wpAnyH_gen (S' := TT (some x1) (some x2)) (T := fun w1 => RG wr w1 (some x1) (some x2)) (fun w1 => TT.less2 w1) (by rw [hx2]; exact HG.out.allocB) (fun wv hG => ?_)
              have hS := hG.tt
              have HG := Lib.hid hG
              clear hG hx2
              refine wpAnyH_take (i := 25) (oi := ⟨_, _, _, _, _, _⟩) (v := ?v23) rfl (by kernel_rfl) (by kernel_rfl) (by kernel_rfl) (fun _ _ _ h => h) ?y23 hS ?_
              case y23 => first | (refine Or.inr ⟨by rfl, ?_⟩; with_reducible rfl) | (refine Or.inl ⟨by rfl, ?_⟩; intro wS hSw; have hq := tab_cell (hSw.tb x2 rfl) hi2; go_simp; try with_reducible rfl)
              simp only [Act.put, List.setIfInBounds_toArray, List.set_cons_zero, List.set_cons_succ]
              refine wpAnyH_take (i := 26) (oi := ⟨_, _, _, _, _, _⟩) (v := ?v24) rfl (by kernel_rfl) (by kernel_rfl) (by kernel_rfl) (fun _ _ _ h => h) ?y24 hS ?_
              case y24 => first | (refine Or.inr ⟨by rfl, ?_⟩; with_reducible rfl) | (refine Or.inl ⟨by rfl, ?_⟩; intro wS hSw; have hq := tab_cell (hSw.tb x2 rfl) hi2; go_simp; try with_reducible rfl)
              simp only [Act.put, List.setIfInBounds_toArray, List.set_cons_zero, List.set_cons_succ]
              refine wpAnyH_take (i := 27) (oi := ⟨_, _, _, _, _, _⟩) (v := ?v25) rfl (by kernel_rfl) (by kernel_rfl) (by kernel_rfl) (fun _ _ _ h => h) ?y25 hS ?_
              case y25 => first | (refine Or.inr ⟨by rfl, ?_⟩; with_reducible rfl) | (refine Or.inl ⟨by rfl, ?_⟩; intro wS hSw; go_simp; try with_reducible rfl)
              simp only [Act.put, List.setIfInBounds_toArray, List.set_cons_zero, List.set_cons_succ]
              refine wpAnyH_ready (rs := [28]) (by kernel_rfl) (by simp) ?_
              refine AllReadyH.cons (o := ⟨_, _, _, _, _, _⟩) rfl (fun K hK => ?_) AllReadyH.nil
              go_simp
              refine hK.out _ _ (HG.out.tt.later ((Below.refl _ _).alloc (Nat.le_refl _) _)) (fun hS => ?_)
              clear hK K
              try simp only [Act.put, List.setIfInBounds_toArray, List.set_cons_zero, List.set_cons_succ]
              refine wpAnyH_ready (rs := [29]) (by kernel_rfl) (by simp) ?_
              refine AllReadyH.cons (o := ⟨_, _, _, _, _, _⟩) rfl (fun K hK => ?_) AllReadyH.nil
              refine step_append_lies _ (by rfl) _ _ _ (by rfl) w.heap.size 55 nfo _ 7 64 Try.underlying44 hinfo hz0 hz1 hz2 rfl (by omega) u2 k (dcells l) (by rfl) (((Keeps.ofNew HG.out.bel (fun _ => False)).row HO.out (fun _ _ h => h)).alloc _) ⟨wv.heap.size, 0, none⟩ 1 1 [.int .i64 i6, .int .i64 ((i0 : Int) - 1), .int .u64 (word (clOf (tabA i1).data.toList) 0), .int .u64 (word (clOf (tabA i1).data.toList) 1), .int .u64 (word (clOf (tabA i1).data.toList) 2), .int .u64 (word (clOf (tabA i1).data.toList) 3), .string (tabB i2)] (by rfl) (by rfl) (World.news_of_block (cs := #[.int .i64 i6, .int .i64 ((i0 : Int) - 1), .int .u64 (word (clOf (tabA i1).data.toList) 0), .int .u64 (word (clOf (tabA i1).data.toList) 1), .int .u64 (word (clOf (tabA i1).data.toList) 2), .int .u64 (word (clOf (tabA i1).data.toList) 3), .string (tabB i2)]) (t := 55) (fr := (0, 0)) (heap_alloc_new wv _)) (by simp [Value.oneCell']) (by omega) (by unfold maxLen; omega) (by omega) (by have := HW.out.size; have := HG.out.bel.size; simp; omega) (wv.heap.size + 1) (by simp) ?_
              intro g cap3 w2 hown2 hgrow hat hlt2
              refine hK.out _ _ ((HG.out.later ((Below.refl _ _).alloc (Nat.le_refl _) _)).grown hgrow (fun k hk => (own_lt HO.out k hk).2)) (fun hS => ?_)
              clear hK K
              try simp only [Act.put, List.setIfInBounds_toArray, List.set_cons_zero, List.set_cons_succ]
              have hcl := round_close (d := ⟨i6, (i0 : Int) - 1, clOf (tabA i1).data.toList, tabB i2⟩) HL.out HW.out HO.out HG.out.bel hown2 hgrow
              have HCL := Lib.hid hcl
              clear hcl hown2 hgrow hat hlt2
              refine wpAnyH_take (i := 30) (oi := ⟨_, _, _, _, _, _⟩) (v := ?v26) rfl (by kernel_rfl) (by kernel_rfl) (by kernel_rfl) (fun _ _ _ h => h) ?y26 hS ?_
              case y26 => first | (refine Or.inr ⟨by rfl, ?_⟩; with_reducible rfl) | (refine Or.inl ⟨by rfl, ?_⟩; intro wS hSw; go_simp; try with_reducible rfl)
              simp only [Act.put, List.setIfInBounds_toArray, List.set_cons_zero, List.set_cons_succ]
              refine wpAnyH_done (by kernel_rfl) ?_ _
              go_wp2_with fail
              go_roundw
              case rel => exact ⟨k + 1, m / 6, l ++ [⟨i6, (i0 : Int) - 1, clOf (tabA i1).data.toList, tabB i2⟩], by omega, by omega, by go_num, by simp, by simp [HL.out], HCL.out.2, fun d' hd' => (List.mem_append.1 hd').elim (HK.out d') (fun h => by rw [List.mem_singleton.1 h]; exact HD.out), HCL.out.1⟩
              case measure => simp [intOf] <;> omega
            · go_simp
              refine hK.out _ _ (HG.out.tt.later ((Below.refl _ _).alloc (Nat.le_refl _) _)) (fun _ => ?_)
              clear hK K
              try simp only [Act.put, List.setIfInBounds_toArray, List.set_cons_zero, List.set_cons_succ]
              obtain ⟨x2, hx2⟩ : ∃ x2, x2 = wv.heap.size := ⟨_, rfl⟩
              rw [← hx2]
              refine wpAnyH_gen (S' := TT (some x1) (some x2)) (T := fun w1 => RG wr w1 (some x1) (some x2)) (fun w1 => TT.less2 w1) (by rw [hx2]; exact HG.out.allocB) (fun wv hG => ?_)
              have hS := hG.tt
              have HG := Lib.hid hG
              clear hG hx2
              refine wpAnyH_take (i := 25) (oi := ⟨_, _, _, _, _, _⟩) (v := ?v27) rfl (by kernel_rfl) (by kernel_rfl) (by kernel_rfl) (fun _ _ _ h => h) ?y27 hS ?_
              case y27 => first | (refine Or.inr ⟨by rfl, ?_⟩; with_reducible rfl) | (refine Or.inl ⟨by rfl, ?_⟩; intro wS hSw; have hq := tab_cell (hSw.tb x2 rfl) hi2; go_simp; try with_reducible rfl)
              simp only [Act.put, List.setIfInBounds_toArray, List.set_cons_zero, List.set_cons_succ]
              refine wpAnyH_take (i := 26) (oi := ⟨_, _, _, _, _, _⟩) (v := ?v28) rfl (by kernel_rfl) (by kernel_rfl) (by kernel_rfl) (fun _ _ _ h => h) ?y28 hS ?_
              case y28 => first | (refine Or.inr ⟨by rfl, ?_⟩; with_reducible rfl) | (refine Or.inl ⟨by rfl, ?_⟩; intro wS hSw; have hq := tab_cell (hSw.tb x2 rfl) hi2; go_simp; try with_reducible rfl)
              simp only [Act.put, List.setIfInBounds_toArray, List.set_cons_zero, List.set_cons_succ]
              refine wpAnyH_ready (rs := [18]) (by kernel_rfl) (by simp) ?_
              refine AllReadyH.cons (o := ⟨_, _, _, _, _, _⟩) rfl (fun K hK => ?_) AllReadyH.nil
              go_simp
              refine (law_ofA _ _ (by have := tabA_size i1; omega)).mono ?_
              rintro e wn ⟨rfl, hb⟩
              go_wp2_with fail
              refine hK.out _ _ (HG.out.tt.later hb) (fun hS => ?_)
              clear hK K
              try simp only [Act.put, List.setIfInBounds_toArray, List.set_cons_zero, List.set_cons_succ]
              have HG := Lib.hid (HG.out.later hb)
              clear hb
              obtain ⟨wv, hwv⟩ : ∃ wv, wv = wn := ⟨_, rfl⟩
              rw [← hwv] at HG hS ⊢
              clear hwv
              refine wpAnyH_take (i := 27) (oi := ⟨_, _, _, _, _, _⟩) (v := ?v29) rfl (by kernel_rfl) (by kernel_rfl) (by kernel_rfl) (fun _ _ _ h => h) ?y29 hS ?_
              case y29 => first | (refine Or.inr ⟨by rfl, ?_⟩; with_reducible rfl) | (refine Or.inl ⟨by rfl, ?_⟩; intro wS hSw; go_simp; try with_reducible rfl)
              simp only [Act.put, List.setIfInBounds_toArray, List.set_cons_zero, List.set_cons_succ]
              refine wpAnyH_ready (rs := [28]) (by kernel_rfl) (by simp) ?_
              refine AllReadyH.cons (o := ⟨_, _, _, _, _, _⟩) rfl (fun K hK => ?_) AllReadyH.nil
              go_simp
              refine hK.out _ _ (HG.out.tt.later ((Below.refl _ _).alloc (Nat.le_refl _) _)) (fun hS => ?_)
              clear hK K
              try simp only [Act.put, List.setIfInBounds_toArray, List.set_cons_zero, List.set_cons_succ]
              refine wpAnyH_ready (rs := [29]) (by kernel_rfl) (by simp) ?_
              refine AllReadyH.cons (o := ⟨_, _, _, _, _, _⟩) rfl (fun K hK => ?_) AllReadyH.nil
              refine step_append_lies _ (by rfl) _ _ _ (by rfl) w.heap.size 55 nfo _ 7 64 Try.underlying44 hinfo hz0 hz1 hz2 rfl (by omega) u2 k (dcells l) (by rfl) (((Keeps.ofNew HG.out.bel (fun _ => False)).row HO.out (fun _ _ h => h)).alloc _) ⟨wv.heap.size, 0, none⟩ 1 1 [.int .i64 i6, .int .i64 ((i0 : Int) - 1), .int .u64 (word (clOf (tabA i1).data.toList) 0), .int .u64 (word (clOf (tabA i1).data.toList) 1), .int .u64 (word (clOf (tabA i1).data.toList) 2), .int .u64 (word (clOf (tabA i1).data.toList) 3), .string (tabB i2)] (by rfl) (by rfl) (World.news_of_block (cs := #[.int .i64 i6, .int .i64 ((i0 : Int) - 1), .int .u64 (word (clOf (tabA i1).data.toList) 0), .int .u64 (word (clOf (tabA i1).data.toList) 1), .int .u64 (word (clOf (tabA i1).data.toList) 2), .int .u64 (word (clOf (tabA i1).data.toList) 3), .string (tabB i2)]) (t := 55) (fr := (0, 0)) (heap_alloc_new wv _)) (by simp [Value.oneCell']) (by omega) (by unfold maxLen; omega) (by omega) (by have := HW.out.size; have := HG.out.bel.size; simp; omega) (wv.heap.size + 1) (by simp) ?_
              intro g cap3 w2 hown2 hgrow hat hlt2
              refine hK.out _ _ ((HG.out.later ((Below.refl _ _).alloc (Nat.le_refl _) _)).grown hgrow (fun k hk => (own_lt HO.out k hk).2)) (fun hS => ?_)
              clear hK K
              try simp only [Act.put, List.setIfInBounds_toArray, List.set_cons_zero, List.set_cons_succ]
              have hcl := round_close (d := ⟨i6, (i0 : Int) - 1, clOf (tabA i1).data.toList, tabB i2⟩) HL.out HW.out HO.out HG.out.bel hown2 hgrow
              have HCL := Lib.hid hcl
              clear hcl hown2 hgrow hat hlt2
              refine wpAnyH_take (i := 30) (oi := ⟨_, _, _, _, _, _⟩) (v := ?v30) rfl (by kernel_rfl) (by kernel_rfl) (by kernel_rfl) (fun _ _ _ h => h) ?y30 hS ?_
              case y30 => first | (refine Or.inr ⟨by rfl, ?_⟩; with_reducible rfl) | (refine Or.inl ⟨by rfl, ?_⟩; intro wS hSw; go_simp; try with_reducible rfl)
              simp only [Act.put, List.setIfInBounds_toArray, List.set_cons_zero, List.set_cons_succ]
              refine wpAnyH_done (by kernel_rfl) ?_ _
              go_wp2_with fail
              go_roundw
              case rel => exact ⟨k + 1, m / 6, l ++ [⟨i6, (i0 : Int) - 1, clOf (tabA i1).data.toList, tabB i2⟩], by omega, by omega, by go_num, by simp, by simp [HL.out], HCL.out.2, fun d' hd' => (List.mem_append.1 hd').elim (HK.out d') (fun h => by rw [List.mem_singleton.1 h]; exact HD.out), HCL.out.1⟩
              case measure => simp [intOf] <;> omega
          · go_simp
            refine hK.out _ _ (HG.out.tt.later ((Below.refl _ _).alloc (Nat.le_refl _) _)) (fun _ => ?_)
            clear hK K
            try simp only [Act.put, List.setIfInBounds_toArray, List.set_cons_zero, List.set_cons_succ]
            obtain ⟨x2, hx2⟩ : ∃ x2, x2 = wv.heap.size := ⟨_, rfl⟩
            rw [← hx2]
            refine wpAnyH_gen (S' := TT none (some x2)) (T := fun w1 => RG wr w1 none (some x2)) (fun w1 => TT.less2 w1) (by rw [hx2]; exact HG.out.allocB) (fun wv hG => ?_)
            have hS := hG.tt
            have HG := Lib.hid hG
            clear hG hx2
            refine wpAnyH_take (i := 25) (oi := ⟨_, _, _, _, _, _⟩) (v := ?v31) rfl (by kernel_rfl) (by kernel_rfl) (by kernel_rfl) (fun _ _ _ h => h) ?y31 hS ?_
            case y31 => first | (refine Or.inr ⟨by rfl, ?_⟩; with_reducible rfl) | (refine Or.inl ⟨by rfl, ?_⟩; intro wS hSw; have hq := tab_cell (hSw.tb x2 rfl) hi2; go_simp; try with_reducible rfl)
            simp only [Act.put, List.setIfInBounds_toArray, List.set_cons_zero, List.set_cons_succ]
            refine wpAnyH_take (i := 26) (oi := ⟨_, _, _, _, _, _⟩) (v := ?v32) rfl (by kernel_rfl) (by kernel_rfl) (by kernel_rfl) (fun _ _ _ h => h) ?y32 hS ?_
            case y32 => first | (refine Or.inr ⟨by rfl, ?_⟩; with_reducible rfl) | (refine Or.inl ⟨by rfl, ?_⟩; intro wS hSw; have hq := tab_cell (hSw.tb x2 rfl) hi2; go_simp; try with_reducible rfl)
            simp only [Act.put, List.setIfInBounds_toArray, List.set_cons_zero, List.set_cons_succ]
            refine wpAnyH_ready (rs := [11]) (by kernel_rfl) (by simp) ?_
            refine AllReadyH.cons (o := ⟨_, _, _, _, _, _⟩) rfl (fun K hK => ?_) AllReadyH.nil
            go_simp
            refine hK.out _ _ (HG.out.tt.later ((Below.refl _ _).alloc (Nat.le_refl _) _)) (fun _ => ?_)
            clear hK K
            try simp only [Act.put, List.setIfInBounds_toArray, List.set_cons_zero, List.set_cons_succ]
            obtain ⟨x1, hx1⟩ : ∃ x1, x1 = wv.heap.size := ⟨_, rfl⟩
            rw [← hx1]
            refine wpAnyH_gen (S' := TT (some x1) (some x2)) (T := fun w1 => RG wr w1 (some x1) (some x2)) (fun w1 => TT.less1 w1) (by rw [hx1]; exact HG.out.allocA) (fun wv hG => ?_)
            have hS := hG.tt
            have HG := Lib.hid hG
            clear hG hx1
            refine wpAnyH_take (i := 16) (oi := ⟨_, _, _, _, _, _⟩) (v := ?v33) rfl (by kernel_rfl) (by kernel_rfl) (by kernel_rfl) (fun _ _ _ h => h) ?y33 hS ?_
            case y33 => first | (refine Or.inr ⟨by rfl, ?_⟩; with_reducible rfl) | (refine Or.inl ⟨by rfl, ?_⟩; intro wS hSw; have hq := tab_cell (hSw.ta x1 rfl) hi1; go_simp; try with_reducible rfl)
            simp only [Act.put, List.setIfInBounds_toArray, List.set_cons_zero, List.set_cons_succ]
            refine wpAnyH_take (i := 17) (oi := ⟨_, _, _, _, _, _⟩) (v := ?v34) rfl (by kernel_rfl) (by kernel_rfl) (by kernel_rfl) (fun _ _ _ h => h) ?y34 hS ?_
            case y34 => first | (refine Or.inr ⟨by rfl, ?_⟩; with_reducible rfl) | (refine Or.inl ⟨by rfl, ?_⟩; intro wS hSw; have hq := tab_cell (hSw.ta x1 rfl) hi1; go_simp; try with_reducible rfl)
            simp only [Act.put, List.setIfInBounds_toArray, List.set_cons_zero, List.set_cons_succ]
            refine wpAnyH_ready (rs := [18]) (by kernel_rfl) (by simp) ?_
            refine AllReadyH.cons (o := ⟨_, _, _, _, _, _⟩) rfl (fun K hK => ?_) AllReadyH.nil
            go_simp
            refine (law_ofA _ _ (by have := tabA_size i1; omega)).mono ?_
            rintro e wn ⟨rfl, hb⟩
            go_wp2_with fail
            refine hK.out _ _ (HG.out.tt.later hb) (fun hS => ?_)
            clear hK K
            try simp only [Act.put, List.setIfInBounds_toArray, List.set_cons_zero, List.set_cons_succ]
            have HG := Lib.hid (HG.out.later hb)
            clear hb
            obtain ⟨wv, hwv⟩ : ∃ wv, wv = wn := ⟨_, rfl⟩
            rw [← hwv] at HG hS ⊢
            clear hwv
            refine wpAnyH_take (i := 27) (oi := ⟨_, _, _, _, _, _⟩) (v := ?v35) rfl (by kernel_rfl) (by kernel_rfl) (by kernel_rfl) (fun _ _ _ h => h) ?y35 hS ?_
            case y35 => first | (refine Or.inr ⟨by rfl, ?_⟩; with_reducible rfl) | (refine Or.inl ⟨by rfl, ?_⟩; intro wS hSw; go_simp; try with_reducible rfl)
            simp only [Act.put, List.setIfInBounds_toArray, List.set_cons_zero, List.set_cons_succ]
            refine wpAnyH_ready (rs := [28]) (by kernel_rfl) (by simp) ?_
            refine AllReadyH.cons (o := ⟨_, _, _, _, _, _⟩) rfl (fun K hK => ?_) AllReadyH.nil
            go_simp
            refine hK.out _ _ (HG.out.tt.later ((Below.refl _ _).alloc (Nat.le_refl _) _)) (fun hS => ?_)
            clear hK K
            try simp only [Act.put, List.setIfInBounds_toArray, List.set_cons_zero, List.set_cons_succ]
            refine wpAnyH_ready (rs := [29]) (by kernel_rfl) (by simp) ?_
            refine AllReadyH.cons (o := ⟨_, _, _, _, _, _⟩) rfl (fun K hK => ?_) AllReadyH.nil
            refine step_append_lies _ (by rfl) _ _ _ (by rfl) w.heap.size 55 nfo _ 7 64 Try.underlying44 hinfo hz0 hz1 hz2 rfl (by omega) u2 k (dcells l) (by rfl) (((Keeps.ofNew HG.out.bel (fun _ => False)).row HO.out (fun _ _ h => h)).alloc _) ⟨wv.heap.size, 0, none⟩ 1 1 [.int .i64 i6, .int .i64 ((i0 : Int) - 1), .int .u64 (word (clOf (tabA i1).data.toList) 0), .int .u64 (word (clOf (tabA i1).data.toList) 1), .int .u64 (word (clOf (tabA i1).data.toList) 2), .int .u64 (word (clOf (tabA i1).data.toList) 3), .string (tabB i2)] (by rfl) (by rfl) (World.news_of_block (cs := #[.int .i64 i6, .int .i64 ((i0 : Int) - 1), .int .u64 (word (clOf (tabA i1).data.toList) 0), .int .u64 (word (clOf (tabA i1).data.toList) 1), .int .u64 (word (clOf (tabA i1).data.toList) 2), .int .u64 (word (clOf (tabA i1).data.toList) 3), .string (tabB i2)]) (t := 55) (fr := (0, 0)) (heap_alloc_new wv _)) (by simp [Value.oneCell']) (by omega) (by unfold maxLen; omega) (by omega) (by have := HW.out.size; have := HG.out.bel.size; simp; omega) (wv.heap.size + 1) (by simp) ?_
            intro g cap3 w2 hown2 hgrow hat hlt2
            refine hK.out _ _ ((HG.out.later ((Below.refl _ _).alloc (Nat.le_refl _) _)).grown hgrow (fun k hk => (own_lt HO.out k hk).2)) (fun hS => ?_)
            clear hK K
            try simp only [Act.put, List.setIfInBounds_toArray, List.set_cons_zero, List.set_cons_succ]
            have hcl := round_close (d := ⟨i6, (i0 : Int) - 1, clOf (tabA i1).data.toList, tabB i2⟩) HL.out HW.out HO.out HG.out.bel hown2 hgrow
            have HCL := Lib.hid hcl
            clear hcl hown2 hgrow hat hlt2
            refine wpAnyH_take (i := 30) (oi := ⟨_, _, _, _, _, _⟩) (v := ?v36) rfl (by kernel_rfl) (by kernel_rfl) (by kernel_rfl) (fun _ _ _ h => h) ?y36 hS ?_
            case y36 => first | (refine Or.inr ⟨by rfl, ?_⟩; with_reducible rfl) | (refine Or.inl ⟨by rfl, ?_⟩; intro wS hSw; go_simp; try with_reducible rfl)
            simp only [Act.put, List.setIfInBounds_toArray, List.set_cons_zero, List.set_cons_succ]
            refine wpAnyH_done (by kernel_rfl) ?_ _
            go_wp2_with fail
            go_roundw
            case rel => exact ⟨k + 1, m / 6, l ++ [⟨i6, (i0 : Int) - 1, clOf (tabA i1).data.toList, tabB i2⟩], by omega, by omega, by go_num, by simp, by simp [HL.out], HCL.out.2, fun d' hd' => (List.mem_append.1 hd').elim (HK.out d') (fun h => by rw [List.mem_singleton.1 h]; exact HD.out), HCL.out.1⟩
            case measure => simp [intOf] <;> omega
        · have hkI : ¬ (k : Int) < 5 := by omega
          have hk5 : k = 5 := by omega
          have HK5 := Lib.hid hk5
          clear hk5
          have kc := fun (w : World) (C : Array Value) (n c : Nat) => Lib.run_convert_bytes_const (P := Try.prog) w 22 5 C n c Try.underlying22 Try.underlying5
          have hds : DeedsAt wr u2 l := own_deeds (by rw [HL.out]; exact HO.out) HK.out
          have HDs := Lib.hid hds
          clear hds
          go_wp2_with fail
          refine (farDoes_main _ _ _ [97, 98, 99] l (abc_bytes (heap_alloc_new wr _)) (HDs.out.later ((Below.refl _ _).alloc (Nat.le_refl _) _)) (by decide) (by have := HL.out; omega)).mono ?_
          rintro e w3 ⟨rfl, hb3⟩
          go_wp2_with fail
          go_roundw
          case rel => exact ⟨n + 1, by omega, by go_num, (HW.out.alloc HW.out.size _).trans (hb3.mono (HW.out.alloc HW.out.size _).size)⟩
          case measure => simp [intOf] <;> omega
    · have hlI : ¬ (n : Int) < 7776 := by omega
      clear hlt
      go_wp2
      obtain ⟨x, hx⟩ : ∃ x, x = wr.heap.size := ⟨_, rfl⟩
      have hE0 : (wr.alloc endsO).heap[x]? = some endsO := by rw [hx]; exact heap_alloc_new _ _
      have HE0 := Lib.hid hE0
      have HB0 := Lib.hid (HB.out.alloc HB.out.size endsO)
      rw [← hx]
      clear hE0 hx HB
      go_loopw [6] (fun i w9 => ∃ k : Nat, k ≤ 4 ∧ i = .int .i64 k ∧ Below w.heap.size w w9 ∧ w9.heap[x]? = some endsO) (fun i _ => 4 - (intOf i).toNat)
      case atStart => exact ⟨0, by omega, rfl, HB0.out, HE0.out⟩
      case round =>
        obtain ⟨k, hk, rfl, hbl, hen⟩ := hrel
        have HW := Lib.hid hbl
        have HE := Lib.hid hen
        clear hbl hen HE0 HB0
        by_cases hlk : k < 4
        · have hkI : (k : Int) < 4 := by omega
          obtain ⟨en, hen⟩ : ∃ en, en = ends k := ⟨_, rfl⟩
          have her : -9223372036854775808 ≤ en ∧ en ≤ 9223372036854775807 := by rw [hen]; exact ends_range
          have HEr := Lib.hid her
          have HEn := Lib.hid hen
          clear her hen
          go_upto_region 17 with (fail)
          refine wp_region_held_drew (S := fun w1 => w1.heap[x]? = some endsO) (by kernel_rfl) HE.out (fun hS => ?_)
          refine wpAnyH_take (i := 0) (oi := ⟨_, _, _, _, _, _⟩) (v := ?v37) rfl (by kernel_rfl) (by kernel_rfl) (by kernel_rfl) (fun _ _ _ h => h) ?y37 hS ?_
          case y37 => first | (refine Or.inr ⟨by rfl, ?_⟩; with_reducible rfl) | (refine Or.inl ⟨by rfl, ?_⟩; intro wS hSw; have hq := ends_cell hSw hlk; rw [← HEn.out] at hq; go_simp; try with_reducible rfl)
          simp only [Act.put, List.setIfInBounds_toArray, List.set_cons_zero, List.set_cons_succ]
          refine wpAnyH_take (i := 1) (oi := ⟨_, _, _, _, _, _⟩) (v := ?v38) rfl (by kernel_rfl) (by kernel_rfl) (by kernel_rfl) (fun _ _ _ h => h) ?y38 hS ?_
          case y38 => first | (refine Or.inr ⟨by rfl, ?_⟩; with_reducible rfl) | (refine Or.inl ⟨by rfl, ?_⟩; intro wS hSw; have hq := ends_cell hSw hlk; rw [← HEn.out] at hq; go_simp; try with_reducible rfl)
          simp only [Act.put, List.setIfInBounds_toArray, List.set_cons_zero, List.set_cons_succ]
          refine wpAnyH_take (i := 2) (oi := ⟨_, _, _, _, _, _⟩) (v := ?v39) rfl (by kernel_rfl) (by kernel_rfl) (by kernel_rfl) (fun _ _ _ h => h) ?y39 hS ?_
          case y39 => first | (refine Or.inr ⟨by rfl, ?_⟩; with_reducible rfl) | (refine Or.inl ⟨by rfl, ?_⟩; intro wS hSw; have hq := ends_cell hSw hlk; rw [← HEn.out] at hq; go_simp; try with_reducible rfl)
          simp only [Act.put, List.setIfInBounds_toArray, List.set_cons_zero, List.set_cons_succ]
          refine wpAnyH_take (i := 3) (oi := ⟨_, _, _, _, _, _⟩) (v := ?v40) rfl (by kernel_rfl) (by kernel_rfl) (by kernel_rfl) (fun _ _ _ h => h) ?y40 hS ?_
          case y40 => first | (refine Or.inr ⟨by rfl, ?_⟩; with_reducible rfl) | (refine Or.inl ⟨by rfl, ?_⟩; intro wS hSw; have hq := ends_cell hSw hlk; rw [← HEn.out] at hq; go_simp; try with_reducible rfl)
          simp only [Act.put, List.setIfInBounds_toArray, List.set_cons_zero, List.set_cons_succ]
          refine wpAnyH_take (i := 4) (oi := ⟨_, _, _, _, _, _⟩) (v := ?v41) rfl (by kernel_rfl) (by kernel_rfl) (by kernel_rfl) (fun _ _ _ h => h) ?y41 hS ?_
          case y41 => first | (refine Or.inr ⟨by rfl, ?_⟩; with_reducible rfl) | (refine Or.inl ⟨by rfl, ?_⟩; intro wS hSw; have hq := ends_cell hSw hlk; rw [← HEn.out] at hq; go_simp; try with_reducible rfl)
          simp only [Act.put, List.setIfInBounds_toArray, List.set_cons_zero, List.set_cons_succ]
          refine wpAnyH_take (i := 5) (oi := ⟨_, _, _, _, _, _⟩) (v := ?v42) rfl (by kernel_rfl) (by kernel_rfl) (by kernel_rfl) (fun _ _ _ h => h) ?y42 hS ?_
          case y42 => first | (refine Or.inr ⟨by rfl, ?_⟩; with_reducible rfl) | (refine Or.inl ⟨by rfl, ?_⟩; intro wS hSw; have hq := ends_cell hSw hlk; rw [← HEn.out] at hq; go_simp; try with_reducible rfl)
          simp only [Act.put, List.setIfInBounds_toArray, List.set_cons_zero, List.set_cons_succ]
          refine wpAnyH_take (i := 6) (oi := ⟨_, _, _, _, _, _⟩) (v := ?v43) rfl (by kernel_rfl) (by kernel_rfl) (by kernel_rfl) (fun _ _ _ h => h) ?y43 hS ?_
          case y43 => first | (refine Or.inr ⟨by rfl, ?_⟩; with_reducible rfl) | (refine Or.inl ⟨by rfl, ?_⟩; intro wS hSw; have hq := ends_cell hSw hlk; rw [← HEn.out] at hq; go_simp; try with_reducible rfl)
          simp only [Act.put, List.setIfInBounds_toArray, List.set_cons_zero, List.set_cons_succ]
          refine wpAnyH_take (i := 7) (oi := ⟨_, _, _, _, _, _⟩) (v := ?v44) rfl (by kernel_rfl) (by kernel_rfl) (by kernel_rfl) (fun _ _ _ h => h) ?y44 hS ?_
          case y44 => first | (refine Or.inr ⟨by rfl, ?_⟩; with_reducible rfl) | (refine Or.inl ⟨by rfl, ?_⟩; intro wS hSw; have hq := ends_cell hSw hlk; rw [← HEn.out] at hq; go_simp; try with_reducible rfl)
          simp only [Act.put, List.setIfInBounds_toArray, List.set_cons_zero, List.set_cons_succ]
          refine wpAnyH_take (i := 8) (oi := ⟨_, _, _, _, _, _⟩) (v := ?v45) rfl (by kernel_rfl) (by kernel_rfl) (by kernel_rfl) (fun _ _ _ h => h) ?y45 hS ?_
          case y45 => first | (refine Or.inr ⟨by rfl, ?_⟩; with_reducible rfl) | (refine Or.inl ⟨by rfl, ?_⟩; intro wS hSw; have hq := ends_cell hSw hlk; rw [← HEn.out] at hq; go_simp; try with_reducible rfl)
          simp only [Act.put, List.setIfInBounds_toArray, List.set_cons_zero, List.set_cons_succ]
          refine wpAnyH_take (i := 9) (oi := ⟨_, _, _, _, _, _⟩) (v := ?v46) rfl (by kernel_rfl) (by kernel_rfl) (by kernel_rfl) (fun _ _ _ h => h) ?y46 hS ?_
          case y46 => first | (refine Or.inr ⟨by rfl, ?_⟩; with_reducible rfl) | (refine Or.inl ⟨by rfl, ?_⟩; intro wS hSw; have hq := ends_cell hSw hlk; rw [← HEn.out] at hq; go_simp; try with_reducible rfl)
          simp only [Act.put, List.setIfInBounds_toArray, List.set_cons_zero, List.set_cons_succ]
          refine wpAnyH_take (i := 10) (oi := ⟨_, _, _, _, _, _⟩) (v := ?v47) rfl (by kernel_rfl) (by kernel_rfl) (by kernel_rfl) (fun _ _ _ h => h) ?y47 hS ?_
          case y47 => first | (refine Or.inr ⟨by rfl, ?_⟩; with_reducible rfl) | (refine Or.inl ⟨by rfl, ?_⟩; intro wS hSw; have hq := ends_cell hSw hlk; rw [← HEn.out] at hq; go_simp; try with_reducible rfl)
          simp only [Act.put, List.setIfInBounds_toArray, List.set_cons_zero, List.set_cons_succ]
          refine wpAnyH_take (i := 11) (oi := ⟨_, _, _, _, _, _⟩) (v := ?v48) rfl (by kernel_rfl) (by kernel_rfl) (by kernel_rfl) (fun _ _ _ h => h) ?y48 hS ?_
          case y48 => first | (refine Or.inr ⟨by rfl, ?_⟩; with_reducible rfl) | (refine Or.inl ⟨by rfl, ?_⟩; intro wS hSw; have hq := ends_cell hSw hlk; rw [← HEn.out] at hq; go_simp; try with_reducible rfl)
          simp only [Act.put, List.setIfInBounds_toArray, List.set_cons_zero, List.set_cons_succ]
          refine wpAnyH_take (i := 12) (oi := ⟨_, _, _, _, _, _⟩) (v := ?v49) rfl (by kernel_rfl) (by kernel_rfl) (by kernel_rfl) (fun _ _ _ h => h) ?y49 hS ?_
          case y49 => first | (refine Or.inr ⟨by rfl, ?_⟩; with_reducible rfl) | (refine Or.inl ⟨by rfl, ?_⟩; intro wS hSw; have hq := ends_cell hSw hlk; rw [← HEn.out] at hq; go_simp; try with_reducible rfl)
          simp only [Act.put, List.setIfInBounds_toArray, List.set_cons_zero, List.set_cons_succ]
          refine wpAnyH_take (i := 13) (oi := ⟨_, _, _, _, _, _⟩) (v := ?v50) rfl (by kernel_rfl) (by kernel_rfl) (by kernel_rfl) (fun _ _ _ h => h) ?y50 hS ?_
          case y50 => first | (refine Or.inr ⟨by rfl, ?_⟩; with_reducible rfl) | (refine Or.inl ⟨by rfl, ?_⟩; intro wS hSw; have hq := ends_cell hSw hlk; rw [← HEn.out] at hq; go_simp; try with_reducible rfl)
          simp only [Act.put, List.setIfInBounds_toArray, List.set_cons_zero, List.set_cons_succ]
          refine wpAnyH_take (i := 16) (oi := ⟨_, _, _, _, _, _⟩) (v := ?v51) rfl (by kernel_rfl) (by kernel_rfl) (by kernel_rfl) (fun _ _ _ h => h) ?y51 hS ?_
          case y51 => first | (refine Or.inr ⟨by rfl, ?_⟩; with_reducible rfl) | (refine Or.inl ⟨by rfl, ?_⟩; intro wS hSw; have hq := ends_cell hSw hlk; rw [← HEn.out] at hq; go_simp; try with_reducible rfl)
          simp only [Act.put, List.setIfInBounds_toArray, List.set_cons_zero, List.set_cons_succ]
          refine wpAnyH_take (i := 17) (oi := ⟨_, _, _, _, _, _⟩) (v := ?v52) rfl (by kernel_rfl) (by kernel_rfl) (by kernel_rfl) (fun _ _ _ h => h) ?y52 hS ?_
          case y52 => first | (refine Or.inr ⟨by rfl, ?_⟩; with_reducible rfl) | (refine Or.inl ⟨by rfl, ?_⟩; intro wS hSw; have hq := ends_cell hSw hlk; rw [← HEn.out] at hq; go_simp; try with_reducible rfl)
          simp only [Act.put, List.setIfInBounds_toArray, List.set_cons_zero, List.set_cons_succ]
          refine wpAnyH_take (i := 18) (oi := ⟨_, _, _, _, _, _⟩) (v := ?v53) rfl (by kernel_rfl) (by kernel_rfl) (by kernel_rfl) (fun _ _ _ h => h) ?y53 hS ?_
          case y53 => first | (refine Or.inr ⟨by rfl, ?_⟩; with_reducible rfl) | (refine Or.inl ⟨by rfl, ?_⟩; intro wS hSw; have hq := ends_cell hSw hlk; rw [← HEn.out] at hq; go_simp; try with_reducible rfl)
          simp only [Act.put, List.setIfInBounds_toArray, List.set_cons_zero, List.set_cons_succ]
          refine wpAnyH_take (i := 19) (oi := ⟨_, _, _, _, _, _⟩) (v := ?v54) rfl (by kernel_rfl) (by kernel_rfl) (by kernel_rfl) (fun _ _ _ h => h) ?y54 hS ?_
          case y54 => first | (refine Or.inr ⟨by rfl, ?_⟩; with_reducible rfl) | (refine Or.inl ⟨by rfl, ?_⟩; intro wS hSw; have hq := ends_cell hSw hlk; rw [← HEn.out] at hq; go_simp; try with_reducible rfl)
          simp only [Act.put, List.setIfInBounds_toArray, List.set_cons_zero, List.set_cons_succ]
          refine wpAnyH_take (i := 20) (oi := ⟨_, _, _, _, _, _⟩) (v := ?v55) rfl (by kernel_rfl) (by kernel_rfl) (by kernel_rfl) (fun _ _ _ h => h) ?y55 hS ?_
          case y55 => first | (refine Or.inr ⟨by rfl, ?_⟩; with_reducible rfl) | (refine Or.inl ⟨by rfl, ?_⟩; intro wS hSw; have hq := ends_cell hSw hlk; rw [← HEn.out] at hq; go_simp; try with_reducible rfl)
          simp only [Act.put, List.setIfInBounds_toArray, List.set_cons_zero, List.set_cons_succ]
          refine wpAnyH_take (i := 21) (oi := ⟨_, _, _, _, _, _⟩) (v := ?v56) rfl (by kernel_rfl) (by kernel_rfl) (by kernel_rfl) (fun _ _ _ h => h) ?y56 hS ?_
          case y56 => first | (refine Or.inr ⟨by rfl, ?_⟩; with_reducible rfl) | (refine Or.inl ⟨by rfl, ?_⟩; intro wS hSw; have hq := ends_cell hSw hlk; rw [← HEn.out] at hq; go_simp; try with_reducible rfl)
          simp only [Act.put, List.setIfInBounds_toArray, List.set_cons_zero, List.set_cons_succ]
          refine wpAnyH_take (i := 22) (oi := ⟨_, _, _, _, _, _⟩) (v := ?v57) rfl (by kernel_rfl) (by kernel_rfl) (by kernel_rfl) (fun _ _ _ h => h) ?y57 hS ?_
          case y57 => first | (refine Or.inr ⟨by rfl, ?_⟩; with_reducible rfl) | (refine Or.inl ⟨by rfl, ?_⟩; intro wS hSw; have hq := ends_cell hSw hlk; rw [← HEn.out] at hq; go_simp; try with_reducible rfl)
          simp only [Act.put, List.setIfInBounds_toArray, List.set_cons_zero, List.set_cons_succ]
          refine wpAnyH_take (i := 23) (oi := ⟨_, _, _, _, _, _⟩) (v := ?v58) rfl (by kernel_rfl) (by kernel_rfl) (by kernel_rfl) (fun _ _ _ h => h) ?y58 hS ?_
          case y58 => first | (refine Or.inr ⟨by rfl, ?_⟩; with_reducible rfl) | (refine Or.inl ⟨by rfl, ?_⟩; intro wS hSw; have hq := ends_cell hSw hlk; rw [← HEn.out] at hq; go_simp; try with_reducible rfl)
          simp only [Act.put, List.setIfInBounds_toArray, List.set_cons_zero, List.set_cons_succ]
          refine wpAnyH_ready (rs := [14]) (by kernel_rfl) (by simp) ?_
          refine AllReadyH.cons (o := ⟨_, _, _, _, _, _⟩) rfl (fun K hK => ?_) AllReadyH.nil
          go_simp
          refine (law_ofA _ _ (by decide)).mono ?_
          rintro e wn ⟨rfl, hb⟩
          go_wp2_with fail
          refine hK.out _ _ ((hb.block _ (lt_of_block hS)).trans hS) (fun hS => ?_)
          clear hK K
          try simp only [Act.put, List.setIfInBounds_toArray, List.set_cons_zero, List.set_cons_succ]
          have HB1 := Lib.hid (HW.out.drew.trans (hb.mono HW.out.drew.size))
          clear hb
          refine wpAnyH_take (i := 15) (oi := ⟨_, _, _, _, _, _⟩) (v := ?v59) rfl (by kernel_rfl) (by kernel_rfl) (by kernel_rfl) (fun _ _ _ h => h) ?y59 hS ?_
          case y59 => first | (refine Or.inr ⟨by rfl, ?_⟩; with_reducible rfl) | (refine Or.inl ⟨by rfl, ?_⟩; intro wS hSw; have hq := ends_cell hSw hlk; rw [← HEn.out] at hq; go_simp; try with_reducible rfl)
          simp only [Act.put, List.setIfInBounds_toArray, List.set_cons_zero, List.set_cons_succ]
          refine wpAnyH_ready (rs := [24]) (by kernel_rfl) (by simp) ?_
          refine AllReadyH.cons (o := ⟨_, _, _, _, _, _⟩) rfl (fun K hK => ?_) AllReadyH.nil
          go_simp
          refine hK.out _ _ ((heap_alloc_old _ _ (lt_of_block hS)).trans hS) (fun hS => ?_)
          clear hK K
          try simp only [Act.put, List.setIfInBounds_toArray, List.set_cons_zero, List.set_cons_succ]
          refine wpAnyH_ready (rs := [25]) (by kernel_rfl) (by simp) ?_
          refine AllReadyH.cons (o := ⟨_, _, _, _, _, _⟩) rfl (fun K hK => ?_) AllReadyH.nil
          go_simp
          refine (farDoes_main _ _ _ [] (endsL en) (nil_bytes _) (block_deeds (l := endsL en) ((heap_alloc_new wn _).trans (by simp [dcells, deedc, endsL, word_none])) (by simp [endsL]) (endsL_ok HEr.out)) (by decide) (by simp [endsL])).mono ?_
          rintro e w3 ⟨rfl, hb3⟩
          go_wp2_with fail
          refine hK.out _ _ ((hb3.block _ (lt_of_block hS)).trans hS) (fun hS => ?_)
          clear hK K
          try simp only [Act.put, List.setIfInBounds_toArray, List.set_cons_zero, List.set_cons_succ]
          refine wpAnyH_take (i := 26) (oi := ⟨_, _, _, _, _, _⟩) (v := ?v60) rfl (by kernel_rfl) (by kernel_rfl) (by kernel_rfl) (fun _ _ _ h => h) ?y60 hS ?_
          case y60 => first | (refine Or.inr ⟨by rfl, ?_⟩; with_reducible rfl) | (refine Or.inl ⟨by rfl, ?_⟩; intro wS hSw; have hq := ends_cell hSw hlk; rw [← HEn.out] at hq; go_simp; try with_reducible rfl)
          simp only [Act.put, List.setIfInBounds_toArray, List.set_cons_zero, List.set_cons_succ]
          refine wpAnyH_done (by kernel_rfl) ?_ _
          go_wp2_with fail
          go_roundw
          case rel => exact ⟨k + 1, by omega, by go_num, (HB1.out.alloc HB1.out.size _).trans (hb3.mono (HB1.out.alloc HB1.out.size _).size), hS⟩
          case measure => simp [intOf] <;> omega
        · have hkI : ¬ (k : Int) < 4 := by omega
          go_wp2_with fail
          refine (law_none _).mono ?_
          rintro e w2 ⟨rfl, hb2⟩
          have HB2 := Lib.hid (HW.out.trans (hb2.mono HW.out.size))
          clear hb2
          go_wp2_with fail
          refine (awake_any _).mono ?_
          rintro e w3 ⟨rfl, hb3⟩
          go_wp2
          go_ret
          exact ⟨rfl, HB2.out.trans (hb3.mono HB2.out.size)⟩
end Go.Proofs.Ytfhgmnlhmfnckaa
