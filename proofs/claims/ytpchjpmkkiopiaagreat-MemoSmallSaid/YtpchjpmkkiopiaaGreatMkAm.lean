import Derived.Test.YtpchjpmkkiopiaaGreatMbBm
import Derived.Sort.Grow
import Derived.Deep.RegionHeld3
namespace Go.Proofs.YtpchjpmkkiopiaaGreat
open Go.RowKit Go.Lib

theorem grow_of_below {w w' : World} (h : Below w.heap.size w w') (hd : w.drawn ≤ w'.drawn) : ∃ q os, w' = Go.Sort.grow (w.drewN q) os := by
  refine ⟨w'.drawn - w.drawn, w'.heap.extract w.heap.size w'.heap.size, ?_⟩
  obtain ⟨hp, tp, dr, os, ou⟩ := w
  obtain ⟨hp', tp', dr', os', ou'⟩ := w'
  obtain ⟨h1, h2, h3, h4, h5⟩ := h
  simp only at h1 h2 h3 h4 h5 hd
  subst h1; subst h2; subst h3
  unfold Go.Sort.grow World.drewN
  simp only [World.mk.injEq, and_true, true_and]
  refine ⟨?_, by omega⟩
  apply Array.ext_getElem?
  intro k
  rw [Array.getElem?_append]
  by_cases hk : k < hp.size
  · rw [if_pos hk]
    exact h5 k hk
  · rw [if_neg hk, Array.getElem?_extract]
    by_cases h6 : k < hp'.size
    · rw [if_pos (by omega)]
      congr 1
      omega
    · rw [if_neg (by omega)]
      simp; omega
def cmpK (a b : Ky) : Int := orI (cmpI a.place b.place) (orI (cmpI a.rule b.rule) (cmpI a.level b.level))
def Ky.lt (a b : Ky) : Prop := a.place < b.place ∨ a.place = b.place ∧ (a.rule < b.rule ∨ a.rule = b.rule ∧ a.level < b.level)
instance (a b : Ky) : Decidable (Ky.lt a b) := by unfold Ky.lt; infer_instance
theorem cmpK_lt (a b : Ky) : cmpK a b < 0 ↔ Ky.lt a b := by
  unfold cmpK orI cmpI Ky.lt
  split <;> (repeat' split) <;> omega
def or3 (a b c : Int) : Int := orI a (orI b c)
set_option maxHeartbeats 1000000 in
theorem or3_any (g : Nat) (a b c : Int) (w : World) (h : w.heap[g]? = some (.cells #[.int .i64 a, .int .i64 b, .int .i64 c] 3 (0, 0))) : Calls Tryz.prog 66 #[.slice (some ⟨g, 0, none⟩) 3 3] w fun e w' => e = .returned (.int .i64 (or3 a b c)) ∧ w = w' := by
  have c0 : w.cell? ⟨g, 0, none⟩ = some (.int .i64 a) := by simp [World.cell?, h]
  have c1 : w.cell? ⟨g, 1, none⟩ = some (.int .i64 b) := by simp [World.cell?, h]
  have c2 : w.cell? ⟨g, 2, none⟩ = some (.int .i64 c) := by simp [World.cell?, h]
  clear h
  go_enter Tryz.func66, Tryz.ntmps66
  go_wp2
  go_loopw [8] (fun v8 wr => ∃ i : Nat, i ≤ 3 ∧ v8 = .int .i64 i ∧ (0 < i → a = 0) ∧ (1 < i → b = 0) ∧ (2 < i → c = 0) ∧ w = wr) (fun i _ => 3 - (intOf i).toNat)
  case atStart => exact ⟨0, by omega, rfl, by omega, by omega, by omega, rfl⟩
  case round =>
    obtain ⟨i, hi, rfl, ha, hb, hc, rfl⟩ := hrel
    have Ha := Lib.hid ha
    have Hb := Lib.hid hb
    have Hc := Lib.hid hc
    clear ha hb hc
    by_cases hlt : i < 3
    · have hlt' : (i : Int) < 3 := by omega
      obtain ⟨v, hv, hc⟩ : ∃ v, v = (if i = 0 then a else if i = 1 then b else c) ∧ w.cell? ⟨g, i, none⟩ = some (.int .i64 v) := by
        refine ⟨_, rfl, ?_⟩
        have : i = 0 ∨ i = 1 ∨ i = 2 := by omega
        rcases this with rfl | rfl | rfl
        · exact c0
        · exact c1
        · exact c2
      have Hv := Lib.hid hv
      have Hlt := Lib.hid hlt
      clear hv hlt c0 c1 c2
      by_cases hz : v = 0
      · have q1 : (v != 0) = false := by rw [hz]; rfl
        have Hz := Lib.hid hz
        clear hz
        go_wp2
        go_roundw
        case rel =>
          refine ⟨i + 1, Hlt.out, by go_num, fun _ => ?_, fun h => ?_, fun h => ?_, by simp⟩
          all_goals
            have h2 := Hv.out
            rw [Hz.out] at h2
            have h3 := Ha.out
            have h4 := Hb.out
            have h5 := Hc.out
            have h6 := Hlt.out
            split at h2
            all_goals first | omega | (split at h2 <;> omega)
        case measure => have := Hlt.out; simp [intOf]; omega
      · have q1 : (v != 0) = true := by simpa using hz
        have hres : or3 a b c = v := by
          unfold or3 orI
          have h2 := Hv.out
          have h3 := Ha.out
          have h4 := Hb.out
          have h6 := Hlt.out
          split at h2
          · rw [if_pos (by omega)]; omega
          · rw [if_neg (by have := h3 (by omega); omega)]
            split at h2
            · rw [if_pos (by omega)]; omega
            · rw [if_neg (by have := h4 (by omega); omega)]; omega
        have Hres := Lib.hid hres
        clear hz hres
        go_wp2
        go_ret
        exact ⟨by rw [Hres.out]; rfl, rfl⟩
    · have hlt' : ¬ (i : Int) < 3 := by omega
      have Hres := Lib.hid (show or3 a b c = 0 by unfold or3 orI; rw [Ha.out (by omega), Hb.out (by omega), Hc.out (by omega)]; simp)
      clear hlt hi
      go_wp2
      go_ret
      exact ⟨by rw [Hres.out]; rfl, rfl⟩
set_option maxRecDepth 100000 in
set_option maxHeartbeats 2000000 in
theorem kcompare_grow (a b : Ky) (w : World) : Calls Tryz.prog 50 #[kyv a, kyv b] w fun e w' => e = .returned (.int .i64 (cmpK a b)) ∧ ∃ q os, w' = Go.Sort.grow (w.drewN q) os := by
  unfold cmpK
  rw [show orI (cmpI a.place b.place) (orI (cmpI a.rule b.rule) (cmpI a.level b.level)) = or3 (cmpI a.place b.place) (cmpI a.rule b.rule) (cmpI a.level b.level) from rfl]
  go_enter Tryz.func50, Tryz.ntmps50
  go_upto_region 1 with (fail)
  obtain ⟨ha, hx⟩ := one_new w (.cells #[.int .i64 a.rule, .int .i64 a.level, .int .i64 a.place] 24 (0, 0))
  obtain ⟨hb, hy⟩ := one_new (w.alloc (.cells #[.int .i64 a.rule, .int .i64 a.level, .int .i64 a.place] 24 (0, 0))) (.cells #[.int .i64 b.rule, .int .i64 b.level, .int .i64 b.place] 24 (0, 0))
  have hx2 := (hb.block _ (lt_of_block hx)).trans hx
  have e1 : (w.alloc (.cells #[.int .i64 a.rule, .int .i64 a.level, .int .i64 a.place] 24 (0, 0))).heap.size = w.heap.size + 1 := by simp
  have hab := ha.trans (hb.mono (by omega))
  rw [e1] at hy
  refine gen_world (S := fun u => Below w.heap.size w u ∧ u.heap[w.heap.size]? = some (.cells #[.int .i64 a.rule, .int .i64 a.level, .int .i64 a.place] 24 (0, 0)) ∧ u.heap[w.heap.size + 1]? = some (.cells #[.int .i64 b.rule, .int .i64 b.level, .int .i64 b.place] 24 (0, 0)) ∧ w.drawn ≤ u.drawn) ⟨hab, hx2, hy, Nat.le_refl _⟩ (fun u hu => ?_)
  obtain ⟨hbu, ha3, hb3, hdr⟩ := hu
  have HDr := Lib.hid hdr
  have Hb := Lib.hid hbu
  have HA := Lib.hid ha3
  have HB := Lib.hid hb3
  obtain ⟨A, hA⟩ : ∃ A, A = w.heap.size := ⟨_, rfl⟩
  rw [← hA] at HA HB ⊢
  obtain ⟨B, hB⟩ : ∃ B, B = A + 1 := ⟨_, rfl⟩
  rw [← hB] at HB ⊢
  clear hA hB ha hb hx hy hx2 e1 hab hbu ha3 hb3 hdr
  refine wp_region_held_drew (S := fun wq => Below u.heap.size u wq ∧ wq.heap[A]? = some (.cells #[.int .i64 a.rule, .int .i64 a.level, .int .i64 a.place] 24 (0, 0)) ∧ wq.heap[B]? = some (.cells #[.int .i64 b.rule, .int .i64 b.level, .int .i64 b.place] 24 (0, 0)) ∧ u.drawn ≤ wq.drawn) (by kernel_rfl) ⟨(Below.refl _ _).drew, HA.out, HB.out, Nat.le_succ _⟩ (fun hS => ?_)
  refine wpAnyH_take (i := 0) (oi := ⟨_, _, _, _, _, _⟩) (v := ?v1) rfl (by kernel_rfl) (by kernel_rfl) (by kernel_rfl) (fun _ _ _ h => h) ?y1 hS ?_
  case y1 => first | (refine Or.inr ⟨by rfl, ?_⟩; with_reducible rfl) | (refine Or.inl ⟨by rfl, ?_⟩; intro wS hSw; obtain ⟨a0S, a1S, a2S, -⟩ := three_box hSw.2.1; obtain ⟨b0S, b1S, b2S, -⟩ := three_box hSw.2.2.1; go_simp; try with_reducible rfl)
  simp only [Act.put, List.setIfInBounds_toArray, List.set_cons_zero, List.set_cons_succ]
  refine wpAnyH_take (i := 1) (oi := ⟨_, _, _, _, _, _⟩) (v := ?v2) rfl (by kernel_rfl) (by kernel_rfl) (by kernel_rfl) (fun _ _ _ h => h) ?y2 hS ?_
  case y2 => first | (refine Or.inr ⟨by rfl, ?_⟩; with_reducible rfl) | (refine Or.inl ⟨by rfl, ?_⟩; intro wS hSw; obtain ⟨a0S, a1S, a2S, -⟩ := three_box hSw.2.1; obtain ⟨b0S, b1S, b2S, -⟩ := three_box hSw.2.2.1; go_simp; try with_reducible rfl)
  simp only [Act.put, List.setIfInBounds_toArray, List.set_cons_zero, List.set_cons_succ]
  refine wpAnyH_take (i := 2) (oi := ⟨_, _, _, _, _, _⟩) (v := ?v3) rfl (by kernel_rfl) (by kernel_rfl) (by kernel_rfl) (fun _ _ _ h => h) ?y3 hS ?_
  case y3 => first | (refine Or.inr ⟨by rfl, ?_⟩; with_reducible rfl) | (refine Or.inl ⟨by rfl, ?_⟩; intro wS hSw; obtain ⟨a0S, a1S, a2S, -⟩ := three_box hSw.2.1; obtain ⟨b0S, b1S, b2S, -⟩ := three_box hSw.2.2.1; go_simp; try with_reducible rfl)
  simp only [Act.put, List.setIfInBounds_toArray, List.set_cons_zero, List.set_cons_succ]
  refine wpAnyH_take (i := 3) (oi := ⟨_, _, _, _, _, _⟩) (v := ?v4) rfl (by kernel_rfl) (by kernel_rfl) (by kernel_rfl) (fun _ _ _ h => h) ?y4 hS ?_
  case y4 => first | (refine Or.inr ⟨by rfl, ?_⟩; with_reducible rfl) | (refine Or.inl ⟨by rfl, ?_⟩; intro wS hSw; obtain ⟨a0S, a1S, a2S, -⟩ := three_box hSw.2.1; obtain ⟨b0S, b1S, b2S, -⟩ := three_box hSw.2.2.1; go_simp; try with_reducible rfl)
  simp only [Act.put, List.setIfInBounds_toArray, List.set_cons_zero, List.set_cons_succ]
  refine wpAnyH_take (i := 5) (oi := ⟨_, _, _, _, _, _⟩) (v := ?v5) rfl (by kernel_rfl) (by kernel_rfl) (by kernel_rfl) (fun _ _ _ h => h) ?y5 hS ?_
  case y5 => first | (refine Or.inr ⟨by rfl, ?_⟩; with_reducible rfl) | (refine Or.inl ⟨by rfl, ?_⟩; intro wS hSw; obtain ⟨a0S, a1S, a2S, -⟩ := three_box hSw.2.1; obtain ⟨b0S, b1S, b2S, -⟩ := three_box hSw.2.2.1; go_simp; try with_reducible rfl)
  simp only [Act.put, List.setIfInBounds_toArray, List.set_cons_zero, List.set_cons_succ]
  refine wpAnyH_take (i := 6) (oi := ⟨_, _, _, _, _, _⟩) (v := ?v6) rfl (by kernel_rfl) (by kernel_rfl) (by kernel_rfl) (fun _ _ _ h => h) ?y6 hS ?_
  case y6 => first | (refine Or.inr ⟨by rfl, ?_⟩; with_reducible rfl) | (refine Or.inl ⟨by rfl, ?_⟩; intro wS hSw; obtain ⟨a0S, a1S, a2S, -⟩ := three_box hSw.2.1; obtain ⟨b0S, b1S, b2S, -⟩ := three_box hSw.2.2.1; go_simp; try with_reducible rfl)
  simp only [Act.put, List.setIfInBounds_toArray, List.set_cons_zero, List.set_cons_succ]
  refine wpAnyH_take (i := 7) (oi := ⟨_, _, _, _, _, _⟩) (v := ?v7) rfl (by kernel_rfl) (by kernel_rfl) (by kernel_rfl) (fun _ _ _ h => h) ?y7 hS ?_
  case y7 => first | (refine Or.inr ⟨by rfl, ?_⟩; with_reducible rfl) | (refine Or.inl ⟨by rfl, ?_⟩; intro wS hSw; obtain ⟨a0S, a1S, a2S, -⟩ := three_box hSw.2.1; obtain ⟨b0S, b1S, b2S, -⟩ := three_box hSw.2.2.1; go_simp; try with_reducible rfl)
  simp only [Act.put, List.setIfInBounds_toArray, List.set_cons_zero, List.set_cons_succ]
  refine wpAnyH_take (i := 8) (oi := ⟨_, _, _, _, _, _⟩) (v := ?v8) rfl (by kernel_rfl) (by kernel_rfl) (by kernel_rfl) (fun _ _ _ h => h) ?y8 hS ?_
  case y8 => first | (refine Or.inr ⟨by rfl, ?_⟩; with_reducible rfl) | (refine Or.inl ⟨by rfl, ?_⟩; intro wS hSw; obtain ⟨a0S, a1S, a2S, -⟩ := three_box hSw.2.1; obtain ⟨b0S, b1S, b2S, -⟩ := three_box hSw.2.2.1; go_simp; try with_reducible rfl)
  simp only [Act.put, List.setIfInBounds_toArray, List.set_cons_zero, List.set_cons_succ]
  refine wpAnyH_take (i := 10) (oi := ⟨_, _, _, _, _, _⟩) (v := ?v9) rfl (by kernel_rfl) (by kernel_rfl) (by kernel_rfl) (fun _ _ _ h => h) ?y9 hS ?_
  case y9 => first | (refine Or.inr ⟨by rfl, ?_⟩; with_reducible rfl) | (refine Or.inl ⟨by rfl, ?_⟩; intro wS hSw; obtain ⟨a0S, a1S, a2S, -⟩ := three_box hSw.2.1; obtain ⟨b0S, b1S, b2S, -⟩ := three_box hSw.2.2.1; go_simp; try with_reducible rfl)
  simp only [Act.put, List.setIfInBounds_toArray, List.set_cons_zero, List.set_cons_succ]
  refine wpAnyH_take (i := 11) (oi := ⟨_, _, _, _, _, _⟩) (v := ?v10) rfl (by kernel_rfl) (by kernel_rfl) (by kernel_rfl) (fun _ _ _ h => h) ?y10 hS ?_
  case y10 => first | (refine Or.inr ⟨by rfl, ?_⟩; with_reducible rfl) | (refine Or.inl ⟨by rfl, ?_⟩; intro wS hSw; obtain ⟨a0S, a1S, a2S, -⟩ := three_box hSw.2.1; obtain ⟨b0S, b1S, b2S, -⟩ := three_box hSw.2.2.1; go_simp; try with_reducible rfl)
  simp only [Act.put, List.setIfInBounds_toArray, List.set_cons_zero, List.set_cons_succ]
  refine wpAnyH_take (i := 12) (oi := ⟨_, _, _, _, _, _⟩) (v := ?v11) rfl (by kernel_rfl) (by kernel_rfl) (by kernel_rfl) (fun _ _ _ h => h) ?y11 hS ?_
  case y11 => first | (refine Or.inr ⟨by rfl, ?_⟩; with_reducible rfl) | (refine Or.inl ⟨by rfl, ?_⟩; intro wS hSw; obtain ⟨a0S, a1S, a2S, -⟩ := three_box hSw.2.1; obtain ⟨b0S, b1S, b2S, -⟩ := three_box hSw.2.2.1; go_simp; try with_reducible rfl)
  simp only [Act.put, List.setIfInBounds_toArray, List.set_cons_zero, List.set_cons_succ]
  refine wpAnyH_take (i := 13) (oi := ⟨_, _, _, _, _, _⟩) (v := ?v12) rfl (by kernel_rfl) (by kernel_rfl) (by kernel_rfl) (fun _ _ _ h => h) ?y12 hS ?_
  case y12 => first | (refine Or.inr ⟨by rfl, ?_⟩; with_reducible rfl) | (refine Or.inl ⟨by rfl, ?_⟩; intro wS hSw; obtain ⟨a0S, a1S, a2S, -⟩ := three_box hSw.2.1; obtain ⟨b0S, b1S, b2S, -⟩ := three_box hSw.2.2.1; go_simp; try with_reducible rfl)
  simp only [Act.put, List.setIfInBounds_toArray, List.set_cons_zero, List.set_cons_succ]
  refine wpAnyH_ready (rs := [4]) (by kernel_rfl) (by simp) ?_
  refine AllReadyH.cons (o := ⟨_, _, _, _, _, _⟩) rfl (fun K hK => ?_) AllReadyH.nil
  go_simp
  refine (cmp_any a.place b.place _).mono ?_
  rintro e wx ⟨rfl, rfl⟩
  go_wp2_with fail
  refine hK.out _ _ (hS) (fun _ => ?_)
  clear hK K
  try simp only [Act.put, List.setIfInBounds_toArray, List.set_cons_zero, List.set_cons_succ]
  refine wpAnyH_ready (rs := [9]) (by kernel_rfl) (by simp) ?_
  refine AllReadyH.cons (o := ⟨_, _, _, _, _, _⟩) rfl (fun K hK => ?_) AllReadyH.nil
  go_simp
  refine (cmp_any a.rule b.rule _).mono ?_
  rintro e wx ⟨rfl, rfl⟩
  go_wp2_with fail
  refine hK.out _ _ (hS) (fun _ => ?_)
  clear hK K
  try simp only [Act.put, List.setIfInBounds_toArray, List.set_cons_zero, List.set_cons_succ]
  refine wpAnyH_ready (rs := [14]) (by kernel_rfl) (by simp) ?_
  refine AllReadyH.cons (o := ⟨_, _, _, _, _, _⟩) rfl (fun K hK => ?_) AllReadyH.nil
  go_simp
  refine (cmp_any a.level b.level _).mono ?_
  rintro e wx ⟨rfl, rfl⟩
  go_wp2_with fail
  refine hK.out _ _ (hS) (fun _ => ?_)
  clear hK K
  try simp only [Act.put, List.setIfInBounds_toArray, List.set_cons_zero, List.set_cons_succ]
  have hg := one_new u.drew (.cells #[.int .i64 (cmpI a.place b.place), .int .i64 (cmpI a.rule b.rule), .int .i64 (cmpI a.level b.level)] 3 (0, 0))
  have hSa : Below u.heap.size u (u.drew.alloc (.cells #[.int .i64 (cmpI a.place b.place), .int .i64 (cmpI a.rule b.rule), .int .i64 (cmpI a.level b.level)] 3 (0, 0))) := hS.1.trans hg.1
  have hS2 := And.intro hSa (And.intro ((hg.1.block _ (lt_of_block hS.2.1)).trans hS.2.1) (And.intro ((hg.1.block _ (lt_of_block hS.2.2.1)).trans hS.2.2.1) hS.2.2.2))
  refine wpAnyH_ready (rs := [15]) (by kernel_rfl) (by simp) ?_
  refine AllReadyH.cons (o := ⟨_, _, _, _, _, _⟩) rfl (fun K hK => ?_) AllReadyH.nil
  go_simp
  refine hK.out _ _ (hS2) (fun _ => ?_)
  clear hK K
  try simp only [Act.put, List.setIfInBounds_toArray, List.set_cons_zero, List.set_cons_succ]
  refine wpAnyH_ready (rs := [16]) (by kernel_rfl) (by simp) ?_
  refine AllReadyH.cons (o := ⟨_, _, _, _, _, _⟩) rfl (fun K hK => ?_) AllReadyH.nil
  go_simp
  refine (or3_any _ _ _ _ _ hg.2).mono ?_
  rintro e wx ⟨rfl, rfl⟩
  go_wp2_with fail
  refine hK.out _ _ (hS2) (fun _ => ?_)
  clear hK K
  try simp only [Act.put, List.setIfInBounds_toArray, List.set_cons_zero, List.set_cons_succ]
  refine wpAnyH_take (i := 17) (oi := ⟨_, _, _, _, _, _⟩) (v := ?v13) rfl (by kernel_rfl) (by kernel_rfl) (by kernel_rfl) (fun _ _ _ h => h) ?y13 hS2 ?_
  case y13 => first | (refine Or.inr ⟨by rfl, ?_⟩; with_reducible rfl) | (refine Or.inl ⟨by rfl, ?_⟩; intro wS hSw; go_simp; try with_reducible rfl)
  simp only [Act.put, List.setIfInBounds_toArray, List.set_cons_zero, List.set_cons_succ]
  refine wpAnyH_done (by kernel_rfl) ?_ _
  have HS := Lib.hid (grow_of_below (Hb.out.trans (hSa.mono Hb.out.size)) (Nat.le_trans HDr.out hS.2.2.2))
  clear hS hSa hS2 hg
  go_wp2
  go_ret
  exact ⟨rfl, HS.out⟩
end Go.Proofs.YtpchjpmkkiopiaaGreat
