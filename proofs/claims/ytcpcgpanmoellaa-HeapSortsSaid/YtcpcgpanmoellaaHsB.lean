/-
  slices.Values at things: the iterator's word.
-/
import Derived.Test.YtcpcgpanmoellaaHsA
import Derived.RangeFuncNested
import Derived.RangeFuncBound
import Derived.RangeFuncCalls
import Derived.RangeFuncLeaves
import Derived.Shelf.Abstract
import Derived.Shelf.RegionOpen
import Derived.OwnWalkIn
import Derived.TacticsInMore
import Derived.LoopNIn
import Derived.LoopIn
import Derived.Maps.AppendAt
namespace Go.Proofs.Ytcpcgpanmoellaa
open Go.RowKit Go.Shelf
attribute [local go_sem] Oper.semAt_some

/-- the cells of a row of things. -/
def CellsE (W : World) (g : Nat) (L : List En) : Prop := ∀ i, i < L.length → W.cell? ⟨g, i * 3, none⟩ = some (.int .i64 (pos L i).key) ∧ W.cell? ⟨g, i * 3 + 1, none⟩ = some (.int .i64 (pos L i).name) ∧ W.cell? ⟨g, i * 3 + 2, none⟩ = some (.int .i64 (pos L i).turn)
theorem CellsE.below {n₀ : Nat} {A B : World} {g : Nat} {L : List En} (h : CellsE A g L) (hg : g < n₀) (hb : Below n₀ A B) : CellsE B g L := fun i hi =>
  ⟨(hb.cell (p := ⟨g, _, none⟩) hg).trans (h i hi).1, (hb.cell (p := ⟨g, _, none⟩) hg).trans (h i hi).2.1, (hb.cell (p := ⟨g, _, none⟩) hg).trans (h i hi).2.2⟩
set_option maxRecDepth 100000 in
set_option maxHeartbeats 2000000 in
theorem vals1_in (n : Nat) (hn : 1 ≤ n) (l Bs n₀ g N cap : Nat) (L : List En) (hN : N = L.length) (hle : N ≤ 100000) (hg : g < n₀) (J Jx : List En → World → Prop)
    (hY : ∀ pre x W1, J pre W1 → pre.length < N → YieldAt Fence.wide (n - 1) Try.prog l #[env x] W1 fun e W' =>
      (e = .returned (.bool true) ∧ J (pre ++ [x]) W' ∧ Below n₀ W1 W') ∨ (e = .returned (.bool false) ∧ Jx (pre ++ [x]) W'))
    (W : World) (hJ : AbidesFrom W.heap.size J) (hn₀ : n₀ ≤ W.heap.size) (hBs : W.cell? ⟨Bs, 0, none⟩ = some (.slice (some ⟨g, 0, none⟩) N cap)) (hc : CellsE W g L) (h0 : J [] W) :
    CallsIn Fence.wide n Try.prog 48 #[.func (.yield l) #[] #[], .pointer (some ⟨Bs, 0, none⟩)] W fun e W' => (∃ v, e = .returned v) ∧
      ((∃ ys, ys = L ∧ J ys W') ∨ (∃ pre, pre <+: L ∧ Jx pre W')) := by
  refine callsIn_of_wp Try.func48 rfl trivial ?_ rfl
  simp only [Try.ntmps48, List.size_toArray, List.length_cons, List.length_nil, Nat.reduceAdd, Nat.reduceSub, Array.replicate_succ, Array.replicate_zero, List.push_toArray, List.append_toArray, List.nil_append, List.cons_append]
  gi_wp2
  gi_loopw [7] (fun i wr => ∃ k : Nat, k ≤ N ∧ i = .int .i64 k ∧ J (L.take k) wr ∧ Below n₀ W wr) (fun i _ => N - (intOf i).toNat)
  case atStart => exact ⟨0, Nat.zero_le _, rfl, h0, Below.refl _ _⟩
  case round =>
    obtain ⟨k, hk, rfl, hJs, hnx⟩ := hrel
    by_cases hlt : k < N
    · have hlt2 : (k : Int) < N := by omega
      obtain ⟨c0, c1, c2⟩ := hc.below hg hnx k (by omega)
      have hJ2 : J (L.take k) (wr.alloc (.cells #[.int .i64 (pos L k).key, .int .i64 (pos L k).name, .int .i64 (pos L k).turn] 67)) := hJ _ _ _ none hJs (World.grownBy_alloc _ _ _) (fun r e => by cases e)
      obtain ⟨fn, tmps, assign, body, hy, hR⟩ := hY _ (pos L k) _ hJ2 (by rw [List.length_take]; omega)
      have hsn : L.take k ++ [pos L k] = L.take (k + 1) := by rw [pos_get (by omega), List.take_succ_eq_append_getElem (by omega)]
      rw [hsn] at hR
      have HSn := Lib.hid hsn
      clear hsn
      gi_wp2
      refine hR.mono ?_
      rintro e W3 (⟨rfl, hJ3, hk3⟩ | ⟨rfl, hJx3⟩)
      · gi_wp2
        go_roundw
        case rel => exact ⟨k + 1, by omega, by go_num, hJ3, hnx.trans (((Below.refl n₀ wr).alloc (Nat.le_trans hn₀ hnx.size) _).trans hk3)⟩
        case measure => simp [intOf]; omega
      · gi_wp2
        refine bodyPost_ret (results_none rfl _ _ _) rfl ?_
        exact ⟨⟨_, rfl⟩, .inr ⟨_, List.take_prefix _ _, hJx3⟩⟩
    · obtain rfl : k = N := by omega
      have hlt2 : ¬ (k : Int) < k := by omega
      gi_wp2
      go_end0
      exact ⟨⟨_, rfl⟩, .inl (by have h5 := hJs; rw [hN, List.take_length] at h5; exact h5)⟩
set_option maxRecDepth 100000 in
set_option maxHeartbeats 1000000 in
theorem vals1_nil (n : Nat) (l Bs cap : Nat) (ao : Option Addr) (J : List En → World → Prop) (W : World) (hBs : W.cell? ⟨Bs, 0, none⟩ = some (.slice ao 0 cap)) (h0 : J [] W) :
    CallsIn Fence.wide n Try.prog 48 #[.func (.yield l) #[] #[], .pointer (some ⟨Bs, 0, none⟩)] W fun e W' => (∃ v, e = .returned v) ∧ J [] W' := by
  refine callsIn_of_wp Try.func48 rfl trivial ?_ rfl
  simp only [Try.ntmps48, List.size_toArray, List.length_cons, List.length_nil, Nat.reduceAdd, Nat.reduceSub, Array.replicate_succ, Array.replicate_zero, List.push_toArray, List.append_toArray, List.nil_append, List.cons_append]
  gi_wp2
  gi_loopw [7] (fun i wr => i = .int .i64 0 ∧ J [] wr) (fun _ _ => 0)
  case atStart => exact ⟨rfl, h0⟩
  case round =>
    obtain ⟨rfl, hJs⟩ := hrel
    gi_wp2
    go_end0
    exact ⟨⟨_, rfl⟩, hJs⟩
theorem vals_stops (n : Nat) (hn : 1 ≤ n) (Bs n₀ base : Nat) (lv : Value) (L : List En) (hle : L.length ≤ 100000) (w : World) (hBs : Bs < w.heap.size) (hn₀ : n₀ ≤ w.heap.size) (hc : w.cell? ⟨Bs, 0, none⟩ = some lv) (hr : w.ownsRow base 67 3 lv L.length (L.flatMap enc)) (hlt : ∀ g, lv.ownBlock = some g → g < n₀) :
    SeqStopsK Fence.wide n Try.prog 48 #[.pointer (some ⟨Bs, 0, none⟩)] (fun x : En => #[env x]) (Below n₀) (fun ys => ys = L) (fun pre => pre <+: L) L.length w := fun l J Jx W hW hJ _ hY h0 => by
  have hc' := (hW.cell (p := ⟨Bs, 0, none⟩) hBs).trans hc
  by_cases hl : 0 < L.length
  · obtain ⟨g, cap, rfl⟩ := own_shape hr hl
    have hg := hlt g rfl
    have hcs : CellsE w g L := fun i hi => (row3 hr i hi).1
    exact vals1_in n hn l Bs n₀ g L.length cap L rfl hle hg J Jx hY W hJ (Nat.le_trans hn₀ hW.size) hc' (hcs.below hg (hW.mono hn₀)) h0
  · have : L = [] := List.eq_nil_of_length_eq_zero (by omega)
    subst this
    obtain ⟨ao, cap, rfl⟩ := own_val hr
    exact (vals1_nil n l Bs cap ao J W hc' h0).mono fun e W' ⟨he, hj⟩ => ⟨he, .inl ⟨_, rfl, hj⟩⟩
theorem vals_in (n : Nat) (ao : Option Addr) (len cap : Nat) (w : World) :
    CallsIn Fence.wide n Try.prog 33 #[.slice ao len cap] w fun e w' => e = .returned (.func (.func 48) #[] #[.pointer (some ⟨w.heap.size, 0, none⟩)]) ∧ w' = w.alloc (.cells #[.slice ao len cap] 60) := by
  refine callsIn_of_wp Try.func33 rfl trivial ?_ rfl
  simp only [Try.ntmps33, List.size_toArray, List.length_cons, List.length_nil, Nat.reduceAdd, Nat.reduceSub, Array.replicate_succ, Array.replicate_zero, List.push_toArray, List.append_toArray, List.nil_append, List.cons_append]
  gi_wp2
  go_ret
  exact ⟨rfl, rfl⟩
end Go.Proofs.Ytcpcgpanmoellaa
