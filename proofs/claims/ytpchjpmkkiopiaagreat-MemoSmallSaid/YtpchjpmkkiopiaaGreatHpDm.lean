import Derived.Test.YtpchjpmkkiopiaaGreatHpCm
import Derived.Test.YtpchjpmkkiopiaaGreatHpU
import Derived.Deep.RegionHeld3
namespace Go.Proofs.YtpchjpmkkiopiaaGreat
open Go.RowKit Go.Lib

def enc (e : En) : List Value := [.int .i64 e.key, .int .i64 e.name, .int .i64 e.turn]
abbrev env (e : En) : Value := .agg #[.int .i64 e.key, .int .i64 e.name, .int .i64 e.turn]
set_option maxRecDepth 100000 in
set_option maxHeartbeats 2000000 in
theorem compare_any (a b : En) (w : World) : Calls Tryz.prog 119 #[env a, env b] w fun e w' => e = .returned (.int .i64 (cmpE a b)) ∧ Below w.heap.size w w' := by
  unfold cmpE
  go_enter Tryz.func119, Tryz.ntmps119
  go_upto_region 1 with (fail)
  obtain ⟨ha, hx⟩ := one_new w (.cells #[.int .i64 a.key, .int .i64 a.name, .int .i64 a.turn] 133 (0, 0))
  obtain ⟨hb, hy⟩ := one_new (w.alloc (.cells #[.int .i64 a.key, .int .i64 a.name, .int .i64 a.turn] 133 (0, 0))) (.cells #[.int .i64 b.key, .int .i64 b.name, .int .i64 b.turn] 133 (0, 0))
  have hx2 := (hb.block _ (lt_of_block hx)).trans hx
  have e1 : (w.alloc (.cells #[.int .i64 a.key, .int .i64 a.name, .int .i64 a.turn] 133 (0, 0))).heap.size = w.heap.size + 1 := by simp
  have hab := ha.trans (hb.mono (by omega))
  rw [e1] at hy
  refine gen_world (S := fun u => Below w.heap.size w u ∧ u.heap[w.heap.size]? = some (.cells #[.int .i64 a.key, .int .i64 a.name, .int .i64 a.turn] 133 (0, 0)) ∧ u.heap[w.heap.size + 1]? = some (.cells #[.int .i64 b.key, .int .i64 b.name, .int .i64 b.turn] 133 (0, 0))) ⟨hab, hx2, hy⟩ (fun u hu => ?_)
  obtain ⟨hbu, ha3, hb3⟩ := hu
  have Hb := Lib.hid hbu
  have HA := Lib.hid ha3
  have HB := Lib.hid hb3
  obtain ⟨A, hA⟩ : ∃ A, A = w.heap.size := ⟨_, rfl⟩
  rw [← hA] at HA HB ⊢
  obtain ⟨B, hB⟩ : ∃ B, B = A + 1 := ⟨_, rfl⟩
  rw [← hB] at HB ⊢
  clear hA hB ha hb hx hy hx2 e1 hab hbu ha3 hb3
  refine wp_region_held_drew (S := fun wq => Below u.heap.size u wq ∧ wq.heap[A]? = some (.cells #[.int .i64 a.key, .int .i64 a.name, .int .i64 a.turn] 133 (0, 0)) ∧ wq.heap[B]? = some (.cells #[.int .i64 b.key, .int .i64 b.name, .int .i64 b.turn] 133 (0, 0))) (by kernel_rfl) ⟨(Below.refl _ _).drew, HA.out, HB.out⟩ (fun hS => ?_)
  refine wpAnyH_take (i := 0) (oi := ⟨_, _, _, _, _, _⟩) (v := ?v1) rfl (by kernel_rfl) (by kernel_rfl) (by kernel_rfl) (fun _ _ _ h => h) ?y1 hS ?_
  case y1 => first | (refine Or.inr ⟨by rfl, ?_⟩; with_reducible rfl) | (refine Or.inl ⟨by rfl, ?_⟩; intro wS hSw; obtain ⟨a0S, a1S, a2S, -⟩ := three_box hSw.2.1; obtain ⟨b0S, b1S, b2S, -⟩ := three_box hSw.2.2; go_simp; try with_reducible rfl)
  simp only [Act.put, List.setIfInBounds_toArray, List.set_cons_zero, List.set_cons_succ]
  refine wpAnyH_take (i := 1) (oi := ⟨_, _, _, _, _, _⟩) (v := ?v2) rfl (by kernel_rfl) (by kernel_rfl) (by kernel_rfl) (fun _ _ _ h => h) ?y2 hS ?_
  case y2 => first | (refine Or.inr ⟨by rfl, ?_⟩; with_reducible rfl) | (refine Or.inl ⟨by rfl, ?_⟩; intro wS hSw; obtain ⟨a0S, a1S, a2S, -⟩ := three_box hSw.2.1; obtain ⟨b0S, b1S, b2S, -⟩ := three_box hSw.2.2; go_simp; try with_reducible rfl)
  simp only [Act.put, List.setIfInBounds_toArray, List.set_cons_zero, List.set_cons_succ]
  refine wpAnyH_take (i := 2) (oi := ⟨_, _, _, _, _, _⟩) (v := ?v3) rfl (by kernel_rfl) (by kernel_rfl) (by kernel_rfl) (fun _ _ _ h => h) ?y3 hS ?_
  case y3 => first | (refine Or.inr ⟨by rfl, ?_⟩; with_reducible rfl) | (refine Or.inl ⟨by rfl, ?_⟩; intro wS hSw; obtain ⟨a0S, a1S, a2S, -⟩ := three_box hSw.2.1; obtain ⟨b0S, b1S, b2S, -⟩ := three_box hSw.2.2; go_simp; try with_reducible rfl)
  simp only [Act.put, List.setIfInBounds_toArray, List.set_cons_zero, List.set_cons_succ]
  refine wpAnyH_take (i := 3) (oi := ⟨_, _, _, _, _, _⟩) (v := ?v4) rfl (by kernel_rfl) (by kernel_rfl) (by kernel_rfl) (fun _ _ _ h => h) ?y4 hS ?_
  case y4 => first | (refine Or.inr ⟨by rfl, ?_⟩; with_reducible rfl) | (refine Or.inl ⟨by rfl, ?_⟩; intro wS hSw; obtain ⟨a0S, a1S, a2S, -⟩ := three_box hSw.2.1; obtain ⟨b0S, b1S, b2S, -⟩ := three_box hSw.2.2; go_simp; try with_reducible rfl)
  simp only [Act.put, List.setIfInBounds_toArray, List.set_cons_zero, List.set_cons_succ]
  refine wpAnyH_take (i := 4) (oi := ⟨_, _, _, _, _, _⟩) (v := ?v5) rfl (by kernel_rfl) (by kernel_rfl) (by kernel_rfl) (fun _ _ _ h => h) ?y5 hS ?_
  case y5 => first | (refine Or.inr ⟨by rfl, ?_⟩; with_reducible rfl) | (refine Or.inl ⟨by rfl, ?_⟩; intro wS hSw; obtain ⟨a0S, a1S, a2S, -⟩ := three_box hSw.2.1; obtain ⟨b0S, b1S, b2S, -⟩ := three_box hSw.2.2; go_simp; try with_reducible rfl)
  simp only [Act.put, List.setIfInBounds_toArray, List.set_cons_zero, List.set_cons_succ]
  refine wpAnyH_take (i := 5) (oi := ⟨_, _, _, _, _, _⟩) (v := ?v6) rfl (by kernel_rfl) (by kernel_rfl) (by kernel_rfl) (fun _ _ _ h => h) ?y6 hS ?_
  case y6 => first | (refine Or.inr ⟨by rfl, ?_⟩; with_reducible rfl) | (refine Or.inl ⟨by rfl, ?_⟩; intro wS hSw; obtain ⟨a0S, a1S, a2S, -⟩ := three_box hSw.2.1; obtain ⟨b0S, b1S, b2S, -⟩ := three_box hSw.2.2; go_simp; try with_reducible rfl)
  simp only [Act.put, List.setIfInBounds_toArray, List.set_cons_zero, List.set_cons_succ]
  refine wpAnyH_take (i := 7) (oi := ⟨_, _, _, _, _, _⟩) (v := ?v7) rfl (by kernel_rfl) (by kernel_rfl) (by kernel_rfl) (fun _ _ _ h => h) ?y7 hS ?_
  case y7 => first | (refine Or.inr ⟨by rfl, ?_⟩; with_reducible rfl) | (refine Or.inl ⟨by rfl, ?_⟩; intro wS hSw; obtain ⟨a0S, a1S, a2S, -⟩ := three_box hSw.2.1; obtain ⟨b0S, b1S, b2S, -⟩ := three_box hSw.2.2; go_simp; try with_reducible rfl)
  simp only [Act.put, List.setIfInBounds_toArray, List.set_cons_zero, List.set_cons_succ]
  refine wpAnyH_take (i := 8) (oi := ⟨_, _, _, _, _, _⟩) (v := ?v8) rfl (by kernel_rfl) (by kernel_rfl) (by kernel_rfl) (fun _ _ _ h => h) ?y8 hS ?_
  case y8 => first | (refine Or.inr ⟨by rfl, ?_⟩; with_reducible rfl) | (refine Or.inl ⟨by rfl, ?_⟩; intro wS hSw; obtain ⟨a0S, a1S, a2S, -⟩ := three_box hSw.2.1; obtain ⟨b0S, b1S, b2S, -⟩ := three_box hSw.2.2; go_simp; try with_reducible rfl)
  simp only [Act.put, List.setIfInBounds_toArray, List.set_cons_zero, List.set_cons_succ]
  refine wpAnyH_take (i := 9) (oi := ⟨_, _, _, _, _, _⟩) (v := ?v9) rfl (by kernel_rfl) (by kernel_rfl) (by kernel_rfl) (fun _ _ _ h => h) ?y9 hS ?_
  case y9 => first | (refine Or.inr ⟨by rfl, ?_⟩; with_reducible rfl) | (refine Or.inl ⟨by rfl, ?_⟩; intro wS hSw; obtain ⟨a0S, a1S, a2S, -⟩ := three_box hSw.2.1; obtain ⟨b0S, b1S, b2S, -⟩ := three_box hSw.2.2; go_simp; try with_reducible rfl)
  simp only [Act.put, List.setIfInBounds_toArray, List.set_cons_zero, List.set_cons_succ]
  refine wpAnyH_take (i := 10) (oi := ⟨_, _, _, _, _, _⟩) (v := ?v10) rfl (by kernel_rfl) (by kernel_rfl) (by kernel_rfl) (fun _ _ _ h => h) ?y10 hS ?_
  case y10 => first | (refine Or.inr ⟨by rfl, ?_⟩; with_reducible rfl) | (refine Or.inl ⟨by rfl, ?_⟩; intro wS hSw; obtain ⟨a0S, a1S, a2S, -⟩ := three_box hSw.2.1; obtain ⟨b0S, b1S, b2S, -⟩ := three_box hSw.2.2; go_simp; try with_reducible rfl)
  simp only [Act.put, List.setIfInBounds_toArray, List.set_cons_zero, List.set_cons_succ]
  refine wpAnyH_ready (rs := [6]) (by kernel_rfl) (by simp) ?_
  refine AllReadyH.cons (o := ⟨_, _, _, _, _, _⟩) rfl (fun K hK => ?_) AllReadyH.nil
  go_simp
  refine (cmp_any a.key b.key _).mono ?_
  rintro e wx ⟨rfl, rfl⟩
  go_wp2_with fail
  refine hK.out _ _ (hS) (fun _ => ?_)
  clear hK K
  try simp only [Act.put, List.setIfInBounds_toArray, List.set_cons_zero, List.set_cons_succ]
  refine wpAnyH_ready (rs := [11]) (by kernel_rfl) (by simp) ?_
  refine AllReadyH.cons (o := ⟨_, _, _, _, _, _⟩) rfl (fun K hK => ?_) AllReadyH.nil
  go_simp
  refine (cmp_any a.turn b.turn _).mono ?_
  rintro e wx ⟨rfl, rfl⟩
  go_wp2_with fail
  refine hK.out _ _ (hS) (fun _ => ?_)
  clear hK K
  try simp only [Act.put, List.setIfInBounds_toArray, List.set_cons_zero, List.set_cons_succ]
  have hg := one_new u.drew (.cells #[.int .i64 (cmpI a.key b.key), .int .i64 (cmpI a.turn b.turn)] 3 (0, 0))
  have hSa : Below u.heap.size u (u.drew.alloc (.cells #[.int .i64 (cmpI a.key b.key), .int .i64 (cmpI a.turn b.turn)] 3 (0, 0))) := hS.1.trans hg.1
  have hS2 := And.intro hSa (And.intro ((hg.1.block _ (lt_of_block hS.2.1)).trans hS.2.1) ((hg.1.block _ (lt_of_block hS.2.2)).trans hS.2.2))
  refine wpAnyH_ready (rs := [12]) (by kernel_rfl) (by simp) ?_
  refine AllReadyH.cons (o := ⟨_, _, _, _, _, _⟩) rfl (fun K hK => ?_) AllReadyH.nil
  go_simp
  refine hK.out _ _ (hS2) (fun _ => ?_)
  clear hK K
  try simp only [Act.put, List.setIfInBounds_toArray, List.set_cons_zero, List.set_cons_succ]
  refine wpAnyH_ready (rs := [13]) (by kernel_rfl) (by simp) ?_
  refine AllReadyH.cons (o := ⟨_, _, _, _, _, _⟩) rfl (fun K hK => ?_) AllReadyH.nil
  go_simp
  refine (or_any _ _ _ _ hg.2).mono ?_
  rintro e wx ⟨rfl, rfl⟩
  go_wp2_with fail
  refine hK.out _ _ (hS2) (fun _ => ?_)
  clear hK K
  try simp only [Act.put, List.setIfInBounds_toArray, List.set_cons_zero, List.set_cons_succ]
  refine wpAnyH_take (i := 14) (oi := ⟨_, _, _, _, _, _⟩) (v := ?v11) rfl (by kernel_rfl) (by kernel_rfl) (by kernel_rfl) (fun _ _ _ h => h) ?y11 hS2 ?_
  case y11 => first | (refine Or.inr ⟨by rfl, ?_⟩; with_reducible rfl) | (refine Or.inl ⟨by rfl, ?_⟩; intro wS hSw; go_simp; try with_reducible rfl)
  simp only [Act.put, List.setIfInBounds_toArray, List.set_cons_zero, List.set_cons_succ]
  refine wpAnyH_done (by kernel_rfl) ?_ _
  have HS := Lib.hid (Hb.out.trans (hSa.mono Hb.out.size))
  clear hS hSa hS2 hg
  go_wp2
  go_ret
  exact ⟨rfl, HS.out⟩
end Go.Proofs.YtpchjpmkkiopiaaGreat
