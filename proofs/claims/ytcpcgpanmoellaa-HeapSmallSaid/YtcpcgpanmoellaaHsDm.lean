import Derived.Test.YtcpcgpanmoellaaHrJ
import Derived.Sort.Grow
import Derived.RangeFuncNested
import Derived.RangeFuncBound
import Derived.RangeFuncCalls
import Derived.RangeFuncLeaves
import Derived.Shelf.Abstract
import Derived.Shelf.RegionOpen
import Derived.OwnWalkIn
import Derived.TacticsInMore
import Derived.LoopNIn
import Derived.LoopIn
import Derived.Maps.AppendAt
import Derived.RangeFuncBox
import Derived.Shelf.SlSortCmp.InsertionK
namespace Go.Proofs.Ytcpcgpanmoellaa
open Go.RowKit Go.Lib

theorem grow_of_below {w w' : World} (h : Below w.heap.size w w') (hd : w.drawn ≤ w'.drawn) : ∃ q os, w' = Go.Sort.grow (w.drewN q) os := by
  refine ⟨w'.drawn - w.drawn, w'.heap.extract w.heap.size w'.heap.size, ?_⟩
  obtain ⟨hp, tp, dr, os, ou⟩ := w
  obtain ⟨hp', tp', dr', os', ou'⟩ := w'
  obtain ⟨h1, h2, h3, h4, h5⟩ := h
  simp only at h1 h2 h3 h4 h5 hd
  subst h1; subst h2; subst h3
  unfold Go.Sort.grow World.drewN
  simp only [World.mk.injEq, and_true, true_and]
  refine ⟨?_, by omega⟩
  apply Array.ext_getElem?
  intro k
  rw [Array.getElem?_append]
  by_cases hk : k < hp.size
  · rw [if_pos hk]
    exact h5 k hk
  · rw [if_neg hk, Array.getElem?_extract]
    by_cases h6 : k < hp'.size
    · rw [if_pos (by omega)]
      congr 1
      omega
    · rw [if_neg (by omega)]
      simp; omega
set_option maxRecDepth 100000 in
set_option maxHeartbeats 2000000 in
theorem compare_grow (a b : En) (w : World) : Calls Try.prog 34 #[env a, env b] w fun e w' => e = .returned (.int .i64 (cmpE a b)) ∧ ∃ q os, w' = Go.Sort.grow (w.drewN q) os := by
  unfold cmpE
  go_enter Try.func34, Try.ntmps34
  go_upto_region 1 with (fail)
  obtain ⟨ha, hx⟩ := one_new w (.cells #[.int .i64 a.key, .int .i64 a.name, .int .i64 a.turn] 67 (0, 0))
  obtain ⟨hb, hy⟩ := one_new (w.alloc (.cells #[.int .i64 a.key, .int .i64 a.name, .int .i64 a.turn] 67 (0, 0))) (.cells #[.int .i64 b.key, .int .i64 b.name, .int .i64 b.turn] 67 (0, 0))
  have hx2 := (hb.block _ (lt_of_block hx)).trans hx
  have e1 : (w.alloc (.cells #[.int .i64 a.key, .int .i64 a.name, .int .i64 a.turn] 67 (0, 0))).heap.size = w.heap.size + 1 := by simp
  have hab := ha.trans (hb.mono (by omega))
  rw [e1] at hy
  refine gen_world (S := fun u => Below w.heap.size w u ∧ u.heap[w.heap.size]? = some (.cells #[.int .i64 a.key, .int .i64 a.name, .int .i64 a.turn] 67 (0, 0)) ∧ u.heap[w.heap.size + 1]? = some (.cells #[.int .i64 b.key, .int .i64 b.name, .int .i64 b.turn] 67 (0, 0)) ∧ w.drawn ≤ u.drawn) ⟨hab, hx2, hy, Nat.le_refl _⟩ (fun u hu => ?_)
  obtain ⟨hbu, ha3, hb3, hdr⟩ := hu
  have HDr := Lib.hid hdr
  have Hb := Lib.hid hbu
  have HA := Lib.hid ha3
  have HB := Lib.hid hb3
  obtain ⟨A, hA⟩ : ∃ A, A = w.heap.size := ⟨_, rfl⟩
  rw [← hA] at HA HB ⊢
  obtain ⟨B, hB⟩ : ∃ B, B = A + 1 := ⟨_, rfl⟩
  rw [← hB] at HB ⊢
  clear hA hB ha hb hx hy hx2 e1 hab hbu ha3 hb3 hdr
  refine wp_region_held_drew (S := fun wq => Below u.heap.size u wq ∧ wq.heap[A]? = some (.cells #[.int .i64 a.key, .int .i64 a.name, .int .i64 a.turn] 67 (0, 0)) ∧ wq.heap[B]? = some (.cells #[.int .i64 b.key, .int .i64 b.name, .int .i64 b.turn] 67 (0, 0)) ∧ u.drawn ≤ wq.drawn) (by kernel_rfl) ⟨(Below.refl _ _).drew, HA.out, HB.out, Nat.le_succ _⟩ (fun hS => ?_)
  refine wpAnyH_take (i := 0) (oi := ⟨_, _, _, _, _, _⟩) (v := ?v1) rfl (by kernel_rfl) (by kernel_rfl) (by kernel_rfl) (fun _ _ _ h => h) ?y1 hS ?_
  case y1 => first | (refine Or.inr ⟨by rfl, ?_⟩; with_reducible rfl) | (refine Or.inl ⟨by rfl, ?_⟩; intro wS hSw; obtain ⟨a0S, a1S, a2S, -⟩ := three_box hSw.2.1; obtain ⟨b0S, b1S, b2S, -⟩ := three_box hSw.2.2.1; go_simp; try with_reducible rfl)
  simp only [Act.put, List.setIfInBounds_toArray, List.set_cons_zero, List.set_cons_succ]
  refine wpAnyH_take (i := 1) (oi := ⟨_, _, _, _, _, _⟩) (v := ?v2) rfl (by kernel_rfl) (by kernel_rfl) (by kernel_rfl) (fun _ _ _ h => h) ?y2 hS ?_
  case y2 => first | (refine Or.inr ⟨by rfl, ?_⟩; with_reducible rfl) | (refine Or.inl ⟨by rfl, ?_⟩; intro wS hSw; obtain ⟨a0S, a1S, a2S, -⟩ := three_box hSw.2.1; obtain ⟨b0S, b1S, b2S, -⟩ := three_box hSw.2.2.1; go_simp; try with_reducible rfl)
  simp only [Act.put, List.setIfInBounds_toArray, List.set_cons_zero, List.set_cons_succ]
  refine wpAnyH_take (i := 2) (oi := ⟨_, _, _, _, _, _⟩) (v := ?v3) rfl (by kernel_rfl) (by kernel_rfl) (by kernel_rfl) (fun _ _ _ h => h) ?y3 hS ?_
  case y3 => first | (refine Or.inr ⟨by rfl, ?_⟩; with_reducible rfl) | (refine Or.inl ⟨by rfl, ?_⟩; intro wS hSw; obtain ⟨a0S, a1S, a2S, -⟩ := three_box hSw.2.1; obtain ⟨b0S, b1S, b2S, -⟩ := three_box hSw.2.2.1; go_simp; try with_reducible rfl)
  simp only [Act.put, List.setIfInBounds_toArray, List.set_cons_zero, List.set_cons_succ]
  refine wpAnyH_take (i := 3) (oi := ⟨_, _, _, _, _, _⟩) (v := ?v4) rfl (by kernel_rfl) (by kernel_rfl) (by kernel_rfl) (fun _ _ _ h => h) ?y4 hS ?_
  case y4 => first | (refine Or.inr ⟨by rfl, ?_⟩; with_reducible rfl) | (refine Or.inl ⟨by rfl, ?_⟩; intro wS hSw; obtain ⟨a0S, a1S, a2S, -⟩ := three_box hSw.2.1; obtain ⟨b0S, b1S, b2S, -⟩ := three_box hSw.2.2.1; go_simp; try with_reducible rfl)
  simp only [Act.put, List.setIfInBounds_toArray, List.set_cons_zero, List.set_cons_succ]
  refine wpAnyH_take (i := 4) (oi := ⟨_, _, _, _, _, _⟩) (v := ?v5) rfl (by kernel_rfl) (by kernel_rfl) (by kernel_rfl) (fun _ _ _ h => h) ?y5 hS ?_
  case y5 => first | (refine Or.inr ⟨by rfl, ?_⟩; with_reducible rfl) | (refine Or.inl ⟨by rfl, ?_⟩; intro wS hSw; obtain ⟨a0S, a1S, a2S, -⟩ := three_box hSw.2.1; obtain ⟨b0S, b1S, b2S, -⟩ := three_box hSw.2.2.1; go_simp; try with_reducible rfl)
  simp only [Act.put, List.setIfInBounds_toArray, List.set_cons_zero, List.set_cons_succ]
  refine wpAnyH_take (i := 5) (oi := ⟨_, _, _, _, _, _⟩) (v := ?v6) rfl (by kernel_rfl) (by kernel_rfl) (by kernel_rfl) (fun _ _ _ h => h) ?y6 hS ?_
  case y6 => first | (refine Or.inr ⟨by rfl, ?_⟩; with_reducible rfl) | (refine Or.inl ⟨by rfl, ?_⟩; intro wS hSw; obtain ⟨a0S, a1S, a2S, -⟩ := three_box hSw.2.1; obtain ⟨b0S, b1S, b2S, -⟩ := three_box hSw.2.2.1; go_simp; try with_reducible rfl)
  simp only [Act.put, List.setIfInBounds_toArray, List.set_cons_zero, List.set_cons_succ]
  refine wpAnyH_take (i := 7) (oi := ⟨_, _, _, _, _, _⟩) (v := ?v7) rfl (by kernel_rfl) (by kernel_rfl) (by kernel_rfl) (fun _ _ _ h => h) ?y7 hS ?_
  case y7 => first | (refine Or.inr ⟨by rfl, ?_⟩; with_reducible rfl) | (refine Or.inl ⟨by rfl, ?_⟩; intro wS hSw; obtain ⟨a0S, a1S, a2S, -⟩ := three_box hSw.2.1; obtain ⟨b0S, b1S, b2S, -⟩ := three_box hSw.2.2.1; go_simp; try with_reducible rfl)
  simp only [Act.put, List.setIfInBounds_toArray, List.set_cons_zero, List.set_cons_succ]
  refine wpAnyH_take (i := 8) (oi := ⟨_, _, _, _, _, _⟩) (v := ?v8) rfl (by kernel_rfl) (by kernel_rfl) (by kernel_rfl) (fun _ _ _ h => h) ?y8 hS ?_
  case y8 => first | (refine Or.inr ⟨by rfl, ?_⟩; with_reducible rfl) | (refine Or.inl ⟨by rfl, ?_⟩; intro wS hSw; obtain ⟨a0S, a1S, a2S, -⟩ := three_box hSw.2.1; obtain ⟨b0S, b1S, b2S, -⟩ := three_box hSw.2.2.1; go_simp; try with_reducible rfl)
  simp only [Act.put, List.setIfInBounds_toArray, List.set_cons_zero, List.set_cons_succ]
  refine wpAnyH_take (i := 9) (oi := ⟨_, _, _, _, _, _⟩) (v := ?v9) rfl (by kernel_rfl) (by kernel_rfl) (by kernel_rfl) (fun _ _ _ h => h) ?y9 hS ?_
  case y9 => first | (refine Or.inr ⟨by rfl, ?_⟩; with_reducible rfl) | (refine Or.inl ⟨by rfl, ?_⟩; intro wS hSw; obtain ⟨a0S, a1S, a2S, -⟩ := three_box hSw.2.1; obtain ⟨b0S, b1S, b2S, -⟩ := three_box hSw.2.2.1; go_simp; try with_reducible rfl)
  simp only [Act.put, List.setIfInBounds_toArray, List.set_cons_zero, List.set_cons_succ]
  refine wpAnyH_take (i := 10) (oi := ⟨_, _, _, _, _, _⟩) (v := ?v10) rfl (by kernel_rfl) (by kernel_rfl) (by kernel_rfl) (fun _ _ _ h => h) ?y10 hS ?_
  case y10 => first | (refine Or.inr ⟨by rfl, ?_⟩; with_reducible rfl) | (refine Or.inl ⟨by rfl, ?_⟩; intro wS hSw; obtain ⟨a0S, a1S, a2S, -⟩ := three_box hSw.2.1; obtain ⟨b0S, b1S, b2S, -⟩ := three_box hSw.2.2.1; go_simp; try with_reducible rfl)
  simp only [Act.put, List.setIfInBounds_toArray, List.set_cons_zero, List.set_cons_succ]
  refine wpAnyH_ready (rs := [6]) (by kernel_rfl) (by simp) ?_
  refine AllReadyH.cons (o := ⟨_, _, _, _, _, _⟩) rfl (fun K hK => ?_) AllReadyH.nil
  go_simp
  refine (cmp_any a.key b.key _).mono ?_
  rintro e wx ⟨rfl, rfl⟩
  go_wp2_with fail
  refine hK.out _ _ (hS) (fun _ => ?_)
  clear hK K
  try simp only [Act.put, List.setIfInBounds_toArray, List.set_cons_zero, List.set_cons_succ]
  refine wpAnyH_ready (rs := [11]) (by kernel_rfl) (by simp) ?_
  refine AllReadyH.cons (o := ⟨_, _, _, _, _, _⟩) rfl (fun K hK => ?_) AllReadyH.nil
  go_simp
  refine (cmp_any a.turn b.turn _).mono ?_
  rintro e wx ⟨rfl, rfl⟩
  go_wp2_with fail
  refine hK.out _ _ (hS) (fun _ => ?_)
  clear hK K
  try simp only [Act.put, List.setIfInBounds_toArray, List.set_cons_zero, List.set_cons_succ]
  have hg := one_new u.drew (.cells #[.int .i64 (cmpI a.key b.key), .int .i64 (cmpI a.turn b.turn)] 3 (0, 0))
  have hSa : Below u.heap.size u (u.drew.alloc (.cells #[.int .i64 (cmpI a.key b.key), .int .i64 (cmpI a.turn b.turn)] 3 (0, 0))) := hS.1.trans hg.1
  have hS2 := And.intro hSa (And.intro ((hg.1.block _ (lt_of_block hS.2.1)).trans hS.2.1) (And.intro ((hg.1.block _ (lt_of_block hS.2.2.1)).trans hS.2.2.1) hS.2.2.2))
  refine wpAnyH_ready (rs := [12]) (by kernel_rfl) (by simp) ?_
  refine AllReadyH.cons (o := ⟨_, _, _, _, _, _⟩) rfl (fun K hK => ?_) AllReadyH.nil
  go_simp
  refine hK.out _ _ (hS2) (fun _ => ?_)
  clear hK K
  try simp only [Act.put, List.setIfInBounds_toArray, List.set_cons_zero, List.set_cons_succ]
  refine wpAnyH_ready (rs := [13]) (by kernel_rfl) (by simp) ?_
  refine AllReadyH.cons (o := ⟨_, _, _, _, _, _⟩) rfl (fun K hK => ?_) AllReadyH.nil
  go_simp
  refine (or_any _ _ _ _ hg.2).mono ?_
  rintro e wx ⟨rfl, rfl⟩
  go_wp2_with fail
  refine hK.out _ _ (hS2) (fun _ => ?_)
  clear hK K
  try simp only [Act.put, List.setIfInBounds_toArray, List.set_cons_zero, List.set_cons_succ]
  refine wpAnyH_take (i := 14) (oi := ⟨_, _, _, _, _, _⟩) (v := ?v11) rfl (by kernel_rfl) (by kernel_rfl) (by kernel_rfl) (fun _ _ _ h => h) ?y11 hS2 ?_
  case y11 => first | (refine Or.inr ⟨by rfl, ?_⟩; with_reducible rfl) | (refine Or.inl ⟨by rfl, ?_⟩; intro wS hSw; go_simp; try with_reducible rfl)
  simp only [Act.put, List.setIfInBounds_toArray, List.set_cons_zero, List.set_cons_succ]
  refine wpAnyH_done (by kernel_rfl) ?_ _
  have HS := Lib.hid (grow_of_below (Hb.out.trans (hSa.mono Hb.out.size)) (Nat.le_trans HDr.out hS.2.2.2))
  clear hS hSa hS2 hg
  go_wp2
  go_ret
  exact ⟨rfl, HS.out⟩
end Go.Proofs.Ytcpcgpanmoellaa
namespace Go.Proofs.Ytcpcgpanmoellaa
open Go.RowKit Go.Shelf
attribute [local go_sem] Oper.semAt_some

/-- the cells of a row of things. -/
def CellsE (W : World) (g : Nat) (L : List En) : Prop := ∀ i, i < L.length → W.cell? ⟨g, i * 3, none⟩ = some (.int .i64 (pos L i).key) ∧ W.cell? ⟨g, i * 3 + 1, none⟩ = some (.int .i64 (pos L i).name) ∧ W.cell? ⟨g, i * 3 + 2, none⟩ = some (.int .i64 (pos L i).turn)
theorem CellsE.below {n₀ : Nat} {A B : World} {g : Nat} {L : List En} (h : CellsE A g L) (hg : g < n₀) (hb : Below n₀ A B) : CellsE B g L := fun i hi =>
  ⟨(hb.cell (p := ⟨g, _, none⟩) hg).trans (h i hi).1, (hb.cell (p := ⟨g, _, none⟩) hg).trans (h i hi).2.1, (hb.cell (p := ⟨g, _, none⟩) hg).trans (h i hi).2.2⟩
set_option maxRecDepth 100000 in
set_option maxHeartbeats 2000000 in
theorem vals1_in (n : Nat) (hn : 1 ≤ n) (l Bs n₀ g N cap : Nat) (L : List En) (hN : N = L.length) (hle : N ≤ 100000) (hg : g < n₀) (J Jx : List En → World → Prop)
    (hY : ∀ pre x W1, J pre W1 → pre.length < N → YieldAt Fence.wide (n - 1) Try.prog l #[env x] W1 fun e W' =>
      (e = .returned (.bool true) ∧ J (pre ++ [x]) W' ∧ Below n₀ W1 W') ∨ (e = .returned (.bool false) ∧ Jx (pre ++ [x]) W'))
    (W : World) (hJ : AbidesFrom W.heap.size J) (hn₀ : n₀ ≤ W.heap.size) (hBs : W.cell? ⟨Bs, 0, none⟩ = some (.slice (some ⟨g, 0, none⟩) N cap)) (hc : CellsE W g L) (h0 : J [] W) :
    CallsIn Fence.wide n Try.prog 48 #[.func (.yield l) #[] #[], .pointer (some ⟨Bs, 0, none⟩)] W fun e W' => (∃ v, e = .returned v) ∧
      ((∃ ys, ys = L ∧ J ys W') ∨ (∃ pre, pre <+: L ∧ Jx pre W')) := by
  refine callsIn_of_wp Try.func48 rfl trivial ?_ rfl
  simp only [Try.ntmps48, List.size_toArray, List.length_cons, List.length_nil, Nat.reduceAdd, Nat.reduceSub, Array.replicate_succ, Array.replicate_zero, List.push_toArray, List.append_toArray, List.nil_append, List.cons_append]
  gi_wp2
  gi_loopw [7] (fun i wr => ∃ k : Nat, k ≤ N ∧ i = .int .i64 k ∧ J (L.take k) wr ∧ Below n₀ W wr) (fun i _ => N - (intOf i).toNat)
  case atStart => exact ⟨0, Nat.zero_le _, rfl, h0, Below.refl _ _⟩
  case round =>
    obtain ⟨k, hk, rfl, hJs, hnx⟩ := hrel
    by_cases hlt : k < N
    · have hlt2 : (k : Int) < N := by omega
      obtain ⟨c0, c1, c2⟩ := hc.below hg hnx k (by omega)
      have hJ2 : J (L.take k) (wr.alloc (.cells #[.int .i64 (pos L k).key, .int .i64 (pos L k).name, .int .i64 (pos L k).turn] 67)) := hJ _ _ _ none hJs (World.grownBy_alloc _ _ _) (fun r e => by cases e)
      obtain ⟨fn, tmps, assign, body, hy, hR⟩ := hY _ (pos L k) _ hJ2 (by rw [List.length_take]; omega)
      have hsn : L.take k ++ [pos L k] = L.take (k + 1) := by rw [pos_get (by omega), List.take_succ_eq_append_getElem (by omega)]
      rw [hsn] at hR
      have HSn := Lib.hid hsn
      clear hsn
      gi_wp2
      refine hR.mono ?_
      rintro e W3 (⟨rfl, hJ3, hk3⟩ | ⟨rfl, hJx3⟩)
      · gi_wp2
        go_roundw
        case rel => exact ⟨k + 1, by omega, by go_num, hJ3, hnx.trans (((Below.refl n₀ wr).alloc (Nat.le_trans hn₀ hnx.size) _).trans hk3)⟩
        case measure => simp [intOf]; omega
      · gi_wp2
        refine bodyPost_ret (results_none rfl _ _ _) rfl ?_
        exact ⟨⟨_, rfl⟩, .inr ⟨_, List.take_prefix _ _, hJx3⟩⟩
    · obtain rfl : k = N := by omega
      have hlt2 : ¬ (k : Int) < k := by omega
      gi_wp2
      go_end0
      exact ⟨⟨_, rfl⟩, .inl (by have h5 := hJs; rw [hN, List.take_length] at h5; exact h5)⟩
set_option maxRecDepth 100000 in
set_option maxHeartbeats 1000000 in
theorem vals1_nil (n : Nat) (l Bs cap : Nat) (ao : Option Addr) (J : List En → World → Prop) (W : World) (hBs : W.cell? ⟨Bs, 0, none⟩ = some (.slice ao 0 cap)) (h0 : J [] W) :
    CallsIn Fence.wide n Try.prog 48 #[.func (.yield l) #[] #[], .pointer (some ⟨Bs, 0, none⟩)] W fun e W' => (∃ v, e = .returned v) ∧ J [] W' := by
  refine callsIn_of_wp Try.func48 rfl trivial ?_ rfl
  simp only [Try.ntmps48, List.size_toArray, List.length_cons, List.length_nil, Nat.reduceAdd, Nat.reduceSub, Array.replicate_succ, Array.replicate_zero, List.push_toArray, List.append_toArray, List.nil_append, List.cons_append]
  gi_wp2
  gi_loopw [7] (fun i wr => i = .int .i64 0 ∧ J [] wr) (fun _ _ => 0)
  case atStart => exact ⟨rfl, h0⟩
  case round =>
    obtain ⟨rfl, hJs⟩ := hrel
    gi_wp2
    go_end0
    exact ⟨⟨_, rfl⟩, hJs⟩
theorem vals_stops (n : Nat) (hn : 1 ≤ n) (Bs n₀ base : Nat) (lv : Value) (L : List En) (hle : L.length ≤ 100000) (w : World) (hBs : Bs < w.heap.size) (hn₀ : n₀ ≤ w.heap.size) (hc : w.cell? ⟨Bs, 0, none⟩ = some lv) (hr : w.ownsRow base 67 3 lv L.length (L.flatMap enc)) (hlt : ∀ g, lv.ownBlock = some g → g < n₀) :
    SeqStopsK Fence.wide n Try.prog 48 #[.pointer (some ⟨Bs, 0, none⟩)] (fun x : En => #[env x]) (Below n₀) (fun ys => ys = L) (fun pre => pre <+: L) L.length w := fun l J Jx W hW hJ _ hY h0 => by
  have hc' := (hW.cell (p := ⟨Bs, 0, none⟩) hBs).trans hc
  by_cases hl : 0 < L.length
  · obtain ⟨g, cap, rfl⟩ := own_shape hr hl
    have hg := hlt g rfl
    have hcs : CellsE w g L := fun i hi => (row3 hr i hi).1
    exact vals1_in n hn l Bs n₀ g L.length cap L rfl hle hg J Jx hY W hJ (Nat.le_trans hn₀ hW.size) hc' (hcs.below hg (hW.mono hn₀)) h0
  · have : L = [] := List.eq_nil_of_length_eq_zero (by omega)
    subst this
    obtain ⟨ao, cap, rfl⟩ := own_val hr
    exact (vals1_nil n l Bs cap ao J W hc' h0).mono fun e W' ⟨he, hj⟩ => ⟨he, .inl ⟨_, rfl, hj⟩⟩
theorem vals_in (n : Nat) (ao : Option Addr) (len cap : Nat) (w : World) :
    CallsIn Fence.wide n Try.prog 33 #[.slice ao len cap] w fun e w' => e = .returned (.func (.func 48) #[] #[.pointer (some ⟨w.heap.size, 0, none⟩)]) ∧ w' = w.alloc (.cells #[.slice ao len cap] 60) := by
  refine callsIn_of_wp Try.func33 rfl trivial ?_ rfl
  simp only [Try.ntmps33, List.size_toArray, List.length_cons, List.length_nil, Nat.reduceAdd, Nat.reduceSub, Array.replicate_succ, Array.replicate_zero, List.push_toArray, List.append_toArray, List.nil_append, List.cons_append]
  gi_wp2
  go_ret
  exact ⟨rfl, rfl⟩
end Go.Proofs.Ytcpcgpanmoellaa
namespace Go.Proofs.Ytcpcgpanmoellaa
open Go.RowKit Go.Shelf
attribute [local go_sem] Oper.semAt_some

theorem box3_own {β : Type} (B : Nat) (t : TypeId) (f : β → Array Value) : Own (fun s W => W.heap[B]? = some (.cells (f s) t (0, 0))) := fun s X Y row hs hg hrow =>
  (hg.block B (lt_of_block hs) (fun e => by obtain ⟨o, ho, hc⟩ := hrow B e.symm; rw [hs] at ho; cases ho; cases hc)).trans hs
set_option maxRecDepth 100000 in
set_option maxHeartbeats 4000000 in
theorem appendSeq_in (n : Nat) (hn : 3 ≤ n) (Bs base : Nat) (lv : Value) (L : List En) (hle : L.length ≤ 100000) (w : World) (hBs : w.cell? ⟨Bs, 0, none⟩ = some lv) (hr : w.ownsRow base 67 3 lv L.length (L.flatMap enc)) :
    CallsIn Fence.wide n Try.prog 53 #[.slice none 0 0, .func (.func 48) #[] #[.pointer (some ⟨Bs, 0, none⟩)]] w fun e W' =>
      ∃ v, e = .returned v ∧ W'.ownsRow w.heap.size 67 3 v L.length (L.flatMap enc) ∧ (v = .slice none 0 0 ↔ L = []) ∧ Below w.heap.size w W' := by
  have h1 : 1 ≤ n := by omega
  obtain ⟨i0, hi, hz0, hz1, hz2⟩ := info_parts Try.infoEntry
  have hgl : ∀ g, lv.ownBlock = some g → g < w.heap.size := fun g hg => by
    rcases hr.2 with ⟨rfl, _⟩ | ⟨g', cap, cur, rfl, _, hgb, _⟩
    · simp [Value.ownBlock] at hg
    · simp [Value.ownBlock] at hg
      subst hg
      exact lt_of_block hgb
  have hBl : Bs < w.heap.size := World.block_lt_of_cell? (a := ⟨Bs, 0, none⟩) _ hBs
  refine callsIn_of_wp_marks Try.func53 rfl trivial ?_ rfl
  simp only [Try.ntmps53, List.size_toArray, List.length_cons, List.length_nil, Nat.reduceAdd, Nat.reduceSub, Array.replicate_succ, Array.replicate_zero, List.push_toArray, List.append_toArray, List.nil_append, List.cons_append]
  gi_wp2
  have bO := Boxed.new w 60 (.slice none 0 0)
  have hB0 : Below w.heap.size w (w.alloc (.cells #[.slice none 0 0] 60)) := (Below.refl _ w).alloc (Nat.le_refl _) _
  have hr0 : (w.alloc (.cells #[.slice none 0 0] 60)).ownsRow base 67 3 lv L.length (L.flatMap enc) := hr.alloc _
  refine wpIn_rangeFunc_ownH rfl h1 (gf := 48) (lb := #[.pointer (some ⟨Bs, 0, none⟩)]) rfl trivial (enters_of Try.func48 (by kernel_rfl) rfl)
    (vals_stops (n - 1) (by omega) Bs w.heap.size base lv L hle _ (by simp; omega) (by simp) ((hB0.cell (p := ⟨Bs, 0, none⟩) hBl).trans hBs) hr0 hgl) belowK_t (belowK_b (by simp)) (Below.refl _ _) (fun _ => rfl)
    (fun pre W => (∃ v, Boxed W w.heap.size 60 v ∧ W.ownsRow w.heap.size 67 3 v pre.length (pre.flatMap enc) ∧ (v = .slice none 0 0 ↔ pre = [])) ∧ Below w.heap.size w W)
    (fun _ _ _ => False)
    (OwnFrom.and (Own.from (holdsRow_own w.heap.size w.heap.size 60 67 3 (fun pre : List En => pre.length) (fun pre => pre.flatMap enc) (fun pre v => v = .slice none 0 0 ↔ pre = [])) _) (ownFrom_below (Nat.le_refl _) (by simp)))
    (fun _ _ _ _ _ hs _ _ => hs)
    ⟨⟨_, bO, World.ownsRow_nil _ _ _ _, by simp⟩, hB0⟩
    (fun x a' W => ∃ Bx, W.heap[Bx]? = some (.cells #[.int .i64 x.key, .int .i64 x.name, .int .i64 x.turn] 67 (0, 0)) ∧ a' = { tmps := #[.slice none 0 0, .func (.func 48) #[] #[.pointer (some ⟨Bs, 0, none⟩)], .pointer (some ⟨w.heap.size, 0, none⟩), undef, .slice none 0 0, .pointer (some ⟨Bx, 0, none⟩), .func (.func 48) #[] #[.pointer (some ⟨Bs, 0, none⟩)], env x, undef, undef, undef, undef, undef], defers := [] })
    (fun x a' => Own.from (fun s X Y row hs hg hrow => by
      obtain ⟨Bx, h1, h2⟩ := hs
      exact ⟨Bx, box3_own Bx 67 (fun _ : Unit => #[.int .i64 x.key, .int .i64 x.name, .int .i64 x.turn]) () X Y row h1 hg hrow, h2⟩) _)
    ?assign ?body ?done ?stop
  case assign =>
    rintro l pre x W K ⟨⟨v, hv, hrow, hnil⟩, hB⟩ hK
    gi_wp2
    exact hK _ _ ((KeepsOthers.alloc _ _).from _) ((Below.refl _ W).alloc hB.size _) ⟨⟨v, hv.alloc _, hrow.alloc _, hnil⟩, hB.alloc hB.size _⟩ ⟨W.heap.size, heap_alloc_new W _, rfl⟩
  case body =>
    rintro l pre x a' W hl - ⟨⟨v, hv, hrow, hnil⟩, hB⟩ ⟨Bx, hx, rfl⟩ hlt
    have hc := hv.cell
    obtain ⟨y0, y1, y2, -⟩ := three_box hx
    gi_wp2_with (gi_at_builtin; refine wpListIn_append_own _ rfl _ _ 60 rfl w.heap.size 67 i0 _ 3 24 Try.underlying60 hi hz0 hz1 hz2 rfl (by decide) _ _ _ rfl (hrow.alloc _) ⟨W.heap.size, 0, none⟩ 1 1 [.int .i64 x.key, .int .i64 x.name, .int .i64 x.turn] rfl rfl (World.news_of_block (cs := #[.int .i64 x.key, .int .i64 x.name, .int .i64 x.turn]) (t := 67) (fr := (0, 0)) (heap_alloc_new W _)) (by simp [Value.oneCell']) (by unfold maxLen; omega) (by omega) (by have := hB.size; simp; omega) ?_; intro v' w1 hown' hgrow _; obtain ⟨g', cap', rfl⟩ := own_shape hown' (by omega); obtain ⟨hv1, hv2, hr2, hk2, hb2⟩ := hv.appended (by decide) hrow hB.size (Nat.le_refl _) hown' hgrow; have hc1 := hv1.cell; have hf1 := hv1.frozen)
    exact ⟨hk2.from _, hb2, ⟨_, hv2, by rw [List.length_append, List.flatMap_append]; simpa [enc] using hr2, by simp⟩, hB.trans hb2⟩
  case done =>
    rintro D ys W hD rfl ⟨⟨v, hv, hrow, hnil⟩, hB⟩ hK
    have hc := hv.cell
    gi_wp2
    refine ⟨by simp, .inl ⟨_, _, rfl, run_takeDeferred hK, ?_⟩⟩
    exact ⟨_, results_tmp rfl _ _ _, v, rfl, ownsRow_putObj hrow _ hK rfl, hnil, hB.trans (belowK_b (w := w) (Nat.le_refl _) W D _ _ (by simp at hD; omega) hK rfl rfl)⟩
  case stop =>
    rintro D c pre W _ _ h _
    exact h.elim
set_option maxHeartbeats 1000000 in
theorem collect_any (Bs base : Nat) (lv : Value) (L : List En) (hle : L.length ≤ 100000) (w : World) (hBs : w.cell? ⟨Bs, 0, none⟩ = some lv) (hr : w.ownsRow base 67 3 lv L.length (L.flatMap enc)) :
    Calls Try.prog 46 #[.func (.func 48) #[] #[.pointer (some ⟨Bs, 0, none⟩)]] w fun e W' =>
      ∃ v, e = .returned v ∧ W'.ownsRow w.heap.size 67 3 v L.length (L.flatMap enc) ∧ (v = .slice none 0 0 ↔ L = []) ∧ Below w.heap.size w W' := by
  have HA := Lib.hid (callsIn_wide.1 (appendSeq_in 3 (by omega) Bs base lv L hle w hBs hr))
  clear hBs hr
  go_enter Try.func46, Try.ntmps46
  go_wp2_with fail
  refine HA.out.mono ?_
  rintro e w1 ⟨v, rfl, hE⟩
  have HE := Lib.hid hE
  clear hE
  go_wp2
  go_ret
  exact ⟨v, rfl, HE.out⟩
theorem values_any (ao : Option Addr) (len cap : Nat) (w : World) :
    Calls Try.prog 33 #[.slice ao len cap] w fun e w' => e = .returned (.func (.func 48) #[] #[.pointer (some ⟨w.heap.size, 0, none⟩)]) ∧ w' = w.alloc (.cells #[.slice ao len cap] 60) := callsIn_wide.1 (vals_in 3 ao len cap w)
end Go.Proofs.Ytcpcgpanmoellaa
namespace Go.Proofs.Ytcpcgpanmoellaa
open Go.RowKit Go.Lib Go.Sort Go.Shelf

instance : Inhabited En := ⟨En.none⟩
theorem ltE (x y : En) : ltOf cmpE x y = decide (En.lt x y) := by
  unfold ltOf
  exact decide_eq_decide.2 (cmpE_lt x y)
theorem swoE : SWO (ltOf cmpE) where
  irrefl x := by rw [ltE]; exact decide_eq_false (by unfold En.lt; omega)
  trans x y z h1 h2 := by
    rw [ltE, decide_eq_true_eq] at *
    unfold En.lt at *
    omega
  ntrans x y z h1 h2 := by
    rw [ltE, decide_eq_false_iff_not] at *
    unfold En.lt at *
    omega
theorem cmpLaysE (blk off size : Nat) (w : World) : CmpLays Try.prog 34 #[] enc 3 cmpE blk off size w :=
  fun _ _ _ _ x y => compare_grow x y _
theorem flatK_list (d : Array En) : (flatK enc 3 d).toList = d.toList.flatMap enc := by
  apply List.ext_getElem?
  intro i
  by_cases hi : i < d.size * 3
  · have hd : i / 3 < d.toList.length := by simp; omega
    have hm : i % 3 < 3 := Nat.mod_lt _ (by omega)
    have h1 := flat_get enc_len d.toList (i / 3) (i % 3) hd hm
    have e : i / 3 * 3 + i % 3 = i := by omega
    rw [e] at h1
    rw [h1]
    have h2 : (flatK enc 3 d)[i]! = (enc d[i / 3]!)[i % 3]! := get_flatK enc 3 d i hi
    have h3 : i < (flatK enc 3 d).size := by simpa using hi
    rw [getElem!_pos (flatK enc 3 d) i h3] at h2
    have h4 : i / 3 < d.size := by simpa using hd
    rw [getElem!_pos d (i / 3) h4] at h2
    have h5 : i % 3 < (enc d[i / 3]).length := by rw [enc_len]; exact hm
    rw [getElem!_pos (enc d[i / 3]) (i % 3) h5] at h2
    simp only [Array.getElem?_toList, Array.getElem_toList]
    rw [Array.getElem?_eq_getElem h3, h2, List.getElem?_eq_getElem h5]
  · rw [List.getElem?_eq_none (by simp; omega), List.getElem?_eq_none (by rw [flat_len enc_len]; simp; omega)]
/-- a row that is owned, as the sort asks it. -/
theorem holds_own {w : World} {base g n cap : Nat} {L : List En} (h : w.ownsRow base 67 3 (.slice (some ⟨g, 0, none⟩) n cap) n (L.flatMap enc)) : HoldsK enc 3 w g 0 L.toArray := by
  intro j hj
  rw [size_flatK] at hj
  have hj' : j < L.length * 3 := by simpa using hj
  obtain ⟨g', cap', cur, hv, -, hg, -, -, -, ht⟩ := h.2.resolve_left (fun h => by simp at h)
  simp only [Value.slice.injEq, Option.some.injEq, Addr.mk.injEq] at hv
  obtain ⟨⟨rfl, -⟩, -⟩ := hv
  have hn : L.length * 3 = n * 3 := by have := h.1; rw [flat_len enc_len] at this; exact this
  refine ⟨?_, (block_cell' hg _).2⟩
  rw [(block_cell' hg _).1, Nat.zero_add]
  have h3 : j < (flatK enc 3 L.toArray).size := by simpa using hj'
  rw [getElem!_pos (flatK enc 3 L.toArray) j h3]
  have h1 : (flatK enc 3 L.toArray).toList[j]? = (L.flatMap enc)[j]? := by rw [flatK_list]
  rw [← ht, List.getElem?_take_of_lt (by omega)] at h1
  simp only [Array.getElem?_toList] at h1
  rw [← h1, Array.getElem?_eq_getElem h3]
  rfl
/-- what a sort leaves. -/
theorem own_sorted {w : World} {base g n cap m : Nat} {L : List En} {d : Array En} {os : Array Obj} (h : w.ownsRow base 67 3 (.slice (some ⟨g, 0, none⟩) n cap) n (L.flatMap enc)) (hd : d.size = L.length) :
    (sortWorldK enc 3 w g 0 m d os).ownsRow base 67 3 (.slice (some ⟨g, 0, none⟩) n cap) n (d.toList.flatMap enc) ∧ Keeps (fun k => k = g) w (sortWorldK enc 3 w g 0 m d os) := by
  obtain ⟨g', cap', cur, hv, hb, hg, h1, h2, h3, ht⟩ := h.2.resolve_left (fun h => by simp at h)
  simp only [Value.slice.injEq, Option.some.injEq, Addr.mk.injEq] at hv
  obtain ⟨⟨rfl, -⟩, -, rfl⟩ := hv
  have hn : L.length * 3 = n * 3 := by have := h.1; rw [flat_len enc_len] at this; exact this
  have hgl := lt_of_block hg
  have hlen : (d.toList.flatMap enc).length = n * 3 := by rw [flat_len enc_len]; simp; omega
  have hheap : ∀ k, k < w.heap.size → (sortWorldK enc 3 w g 0 m d os).heap[k]? = (w.heap.modify g (onCells (putCells id 0 (flatK enc 3 d))))[k]? := fun k hk => by
    show ((w.heap.modify g (onCells (putCells id 0 (flatK enc 3 d)))) ++ os)[k]? = _
    rw [Array.getElem?_append, if_pos (by simpa using hk)]
  have hsz : w.heap.size ≤ (sortWorldK enc 3 w g 0 m d os).heap.size := by
    show _ ≤ ((w.heap.modify g (onCells (putCells id 0 (flatK enc 3 d)))) ++ os).size
    simp
  refine ⟨⟨hlen, .inr ⟨g, cap, putCells id 0 (flatK enc 3 d) cur, rfl, hb, ?_, h1, h2, by unfold putCells; simpa using h3, ?_⟩⟩, ⟨rfl, rfl, rfl, hsz, fun k hk hne => ?_⟩⟩
  · rw [hheap g hgl, Array.getElem?_modify, if_pos rfl, hg]
    rfl
  · apply List.ext_getElem?
    intro i
    by_cases hi : i < n * 3
    · have h5 : i < (flatK enc 3 d).size := by simp; omega
      have h6 : i < cur.size := by
        have := h3
        have h7 : n * 3 ≤ cap * 3 := by omega
        omega
      rw [List.getElem?_take_of_lt hi]
      have e : (putCells id 0 (flatK enc 3 d) cur)[i]? = some ((flatK enc 3 d)[i]) := by
        unfold putCells
        rw [Array.getElem?_mapIdx, Array.getElem?_eq_getElem h6]
        simp only [Option.map_some, Nat.zero_le, Nat.zero_add, true_and, Nat.sub_zero]
        rw [if_pos h5, getElem!_pos (flatK enc 3 d) i h5]
        rfl
      rw [Array.getElem?_toList, e, ← flatK_list, Array.getElem?_toList, Array.getElem?_eq_getElem h5]
    · rw [List.getElem?_eq_none (by simp; omega), List.getElem?_eq_none (by omega)]
  · rw [hheap k hk, Array.getElem?_modify, if_neg (fun e => hne e.symm)]
end Go.Proofs.Ytcpcgpanmoellaa
