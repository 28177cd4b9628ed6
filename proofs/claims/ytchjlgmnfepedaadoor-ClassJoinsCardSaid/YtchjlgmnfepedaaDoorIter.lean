/-
  Package class: going through the bytes of a class (the iterator's contract); math/bits.TrailingZeros64, OnesCount64 at this program.
-/
import Derived.Test.YtchjlgmnfepedaaDoorElem
import Derived.Test.YtchjlgmnfepedaaDoorClass
import Derived.Shelf.Spec.TrailingZeros
import Derived.RangeFuncNested
import Derived.RangeFuncBound
import Derived.RangeFuncCalls
import Derived.RangeFuncLeaves
import Derived.Shelf.Abstract
import Derived.Shelf.RegionOpen
import Derived.OwnWalkIn
import Derived.TacticsInMore
import Derived.LoopNIn
import Derived.LoopIn
import Derived.Maps.AppendAt
namespace Go.Proofs.YtchjlgmnfepedaaDoor
open Go.RowKit Go.Lib Go.Shelf
attribute [local go_sem] Oper.semAt_some

/-- the table of math/bits lies in its variable. -/
abbrev Tab (w : World) : Prop := TabAt 0 Lib.deBruijn64tab w

set_option maxHeartbeats 1000000 in
theorem tz64_core' (x k idx : Nat) (w : World) (hx0 : ((x : Int) == 0) = false)
    (key : IntKind.u64.wrap (bits BinOp.and IntKind.u64 (x : Int) (IntKind.u64.wrap (-(x : Int))) * 285870213051353865) / 288230376151711744 = (idx : Int))
    (hi : idx < 64) (hk : k < 64) (hcell : w.cell? ⟨0, idx, none⟩ = some (.int .u8 k)) :
    Calls Tryd.prog 34 #[.int .u64 x] w fun e w' => e = .returned (.int .i64 k) ∧ w' = w := by
  go_enter Tryd.func34, Tryd.ntmps34
  go_wp2_with (simp only [key])
  go_ret
  exact ⟨rfl, rfl⟩
theorem tz64 (x : Nat) (hx : x < 18446744073709551616) (hx0 : x ≠ 0) (w : World) (hT : Tab w) :
    Calls Tryd.prog 34 #[.int .u64 x] w fun e w' => e = .returned (.int .i64 (Lib.ctz 64 x)) ∧ w' = w := by
  obtain ⟨hlow, hk⟩ := Lib.lowest_bit 64 x hx0 hx
  obtain ⟨hi, htab⟩ := Lib.deBruijn64_at _ hk
  have hcell := hT _ hi
  rw [htab] at hcell
  exact tz64_core' x _ _ w (by simp; omega) (tz64_key x _ hx hx0 hlow) hi hk hcell

/-- what a round keeps: what lies below n₀; the class's block. -/
structure KpS (n₀ Bs : Nat) (A B : World) : Prop where
  below : Below n₀ A B
  blk : ∀ o, A.heap[Bs]? = some o → B.heap[Bs]? = some o
theorem KpS.refl (n₀ Bs : Nat) (A : World) : KpS n₀ Bs A A := ⟨Below.refl _ _, fun _ h => h⟩
theorem KpS.trans {n₀ Bs : Nat} {A B C : World} (h : KpS n₀ Bs A B) (k : KpS n₀ Bs B C) : KpS n₀ Bs A C := ⟨h.below.trans k.below, fun o ho => k.blk o (h.blk o ho)⟩
theorem KpS.drew {n₀ Bs : Nat} {A B : World} (h : KpS n₀ Bs A B) : KpS n₀ Bs A B.drew := ⟨⟨h.below.os, h.below.tape, h.below.output, h.below.size, h.below.block⟩, h.blk⟩
theorem Tab.kept {n₀ Bs : Nat} {A B : World} (hn : 0 < n₀) (h : KpS n₀ Bs A B) (hT : Tab A) : Tab B := fun j hj => (h.below.cell (p := ⟨0, j, none⟩) hn).trans (hT j hj)
/-- the numbers of some bytes. -/
abbrev vals (l : List (Fin 256)) : List Nat := l.map Fin.val
theorem vals_snoc (l : List (Fin 256)) (x : Fin 256) : vals (l ++ [x]) = vals l ++ [x.val] := by simp [vals]

theorem els_pre {s : Nat → Bool} {n m : Nat} (h : n ≤ m) : els s n <+: els s m := by
  induction m with
  | zero => obtain rfl : n = 0 := by omega
            exact List.prefix_refl _
  | succ m ih =>
    by_cases he : n = m + 1
    · rw [he]; exact List.prefix_refl _
    · refine (ih (by omega)).trans ?_
      cases hs : s m
      · rw [els_skip (Nat.le_succ m) (fun i h1 h2 => by obtain rfl : i = m := by omega
                                                        exact hs)]
        exact List.prefix_refl _
      · rw [els_hit hs]; exact List.prefix_append _ _

set_option maxRecDepth 100000 in
set_option maxHeartbeats 2000000 in
theorem all1_in (n : Nat) (hn : 1 ≤ n) (l Bp Bs n₀ : Nat) (s : Nat → Bool) (hn₀ : 0 < n₀) (J Jx : List (Fin 256) → World → Prop) (hJd : ∀ pre A, J pre A → J pre A.drew)
    (hY : ∀ pre x W, J pre W → pre.length < 256 → YieldAt Fence.wide (n - 1) Tryd.prog l #[.int .u8 ((x : Fin 256).val : Int)] W fun e W' =>
      (e = .returned (.bool true) ∧ J (pre ++ [x]) W' ∧ KpS n₀ Bs W W') ∨ (e = .returned (.bool false) ∧ Jx (pre ++ [x]) W'))
    (W : World) (hBp : W.cell? ⟨Bp, 0, none⟩ = some (.pointer (some ⟨Bs, 0, none⟩))) (hBs : W.heap[Bs]? = some (.cells (clc s) 46 (0, 0))) (hT : Tab W) (h0 : J [] W) :
    CallsIn Fence.wide n Tryd.prog 33 #[.func (.yield l) #[] #[], .pointer (some ⟨Bp, 0, none⟩)] W fun e W' => (∃ v, e = .returned v) ∧
      ((∃ ys, vals ys = els s 256 ∧ J ys W') ∨ (∃ pre, vals pre <+: els s 256 ∧ Jx pre W')) := by
  refine callsIn_of_wp Tryd.func33 rfl trivial ?_ rfl
  simp only [Tryd.ntmps33, List.size_toArray, List.length_cons, List.length_nil, Nat.reduceAdd, Nat.reduceSub, Array.replicate_succ, Array.replicate_zero, List.push_toArray, List.append_toArray, List.nil_append, List.cons_append]
  gi_wp2
  gi_loopw [6] (fun i wr => ∃ (k : Nat) (pre : List (Fin 256)), k ≤ 4 ∧ i = .int .i64 k ∧ vals pre = els s (64 * k) ∧ J pre wr ∧ KpS n₀ Bs W wr) (fun i _ => 4 - (intOf i).toNat)
  case atStart => exact ⟨0, [], by omega, rfl, rfl, h0, KpS.refl _ _ _⟩
  case round =>
    obtain ⟨k, pre, hk4, rfl, hpre, hJ, hK⟩ := hrel
    by_cases hlt : k < 4
    · have hb := hK.blk _ hBs
      have hc := (block_cell' hb k).1
      rw [clc_get _ hlt, ← wfrom_zero] at hc
      gi_wp2
      gi_region
      gi_wp2
      have hdk : decide ((k : Int) < 4) = true := by simp; omega
      simp only [hdk]
      gi_loopw [4] (fun v wi => ∃ (x : Nat) (qre : List (Fin 256)), x ≤ 64 ∧ v = .int .u64 (wfrom s k x) ∧ vals qre = els s (64 * k + x) ∧ J qre wi ∧ KpS n₀ Bs W wi) (fun v _ => (intOf v).toNat)
      case atStart => exact ⟨0, pre, by omega, by rfl, hpre, hJd _ _ hJ, hK.drew⟩
      case round =>
        obtain ⟨x, qre, hx64, rfl, hqre, hJ, hK⟩ := hrel
        by_cases h0 : wfrom s k x = 0
        · rw [h0]
          gi_wp2
          go_roundw
          case rel =>
            refine ⟨k + 1, qre, by omega, by go_num, ?_, hJ, hK⟩
            rw [hqre]
            refine (els_skip (by omega) fun i h1 h2 => ?_).symm
            have := wfrom_end h0 (i - 64 * k) (by omega) (by omega)
            rwa [show 64 * k + (i - 64 * k) = i by omega] at this
          case measure => simp [intOf]; omega
        · obtain ⟨t, htz, hxt, ht64, hst, hno, hand⟩ := wfrom_next h0
          have hlen : qre.length < 256 := by
            have h1 := congrArg List.length hqre
            rw [List.length_map, els_len] at h1
            have h2 := cnt_le s (64 * k + x)
            have h3 : cnt s (64 * k + x) + 1 ≤ cnt s (64 * k + t + 1) := cnt_hit (by omega) hst
            have h4 := cnt_le s (64 * k + t + 1)
            omega
          have hb256 : 64 * k + t < 256 := by omega
          obtain ⟨fn, tmps, assign, body, hy, hR⟩ := hY qre ⟨64 * k + t, hb256⟩ wr hJ hlen
          have e64 : ((64 * k + t : Nat) : Int) = 64 * (k : Int) + t := by omega
          dsimp only at hy
          rw [e64] at hy
          have hw64 := wfrom_lt s k x
          have hTz := tz64 (wfrom s k x) hw64 h0 wr (Tab.kept hn₀ hK hT)
          rw [htz] at hTz
          have hsub : IntKind.u64.wrap ((wfrom s k x : Int) - 1) = ((wfrom s k x - 1 : Nat) : Int) := by rw [IntKind.wrap_u64]; omega
          have hband := bits_and_u64_nat (wfrom s k x) (wfrom s k x - 1) hw64 (by omega)
          rw [hand] at hband
          have hdec : wfrom s k (t + 1) < wfrom s k x := by
            rw [← hand]
            exact Nat.lt_of_le_of_lt Nat.and_le_right (by omega)
          have hlt' := wfrom_lt s k (t + 1)
          have hm0 : ((wfrom s k x : Int) == 0) = false := by simp; omega
          have hq1 : vals (qre ++ [⟨64 * k + t, hb256⟩]) = els s (64 * k + (t + 1)) := by
            rw [vals_snoc, hqre, ← els_skip (n := 64 * k + x) (m := 64 * k + t) (by omega) (fun i h1 h2 => by
              have := hno (i - 64 * k) (by omega) (by omega)
              rwa [show 64 * k + (i - 64 * k) = i by omega] at this)]
            exact (els_hit hst).symm
          generalize wfrom s k x = m at *
          gi_wp2_with (refine ⟨trivial, ?_⟩; gi_at_call 34; refine (callsIn_wide.2 hTz).mono ?_; clear hTz; rintro e w' ⟨rfl, rfl⟩)
          refine hR.mono ?_
          rintro e W3 (⟨rfl, hJ3, hk3⟩ | ⟨rfl, hJx3⟩)
          · gi_wp2
            go_roundw
            case rel => exact ⟨t + 1, _, by omega, rfl, hq1, hJ3, hK.trans hk3⟩
            case measure => simp [intOf]; omega
          · gi_wp2
            refine bodyPost_ret (results_none rfl _ _ _) rfl ?_
            exact ⟨⟨_, rfl⟩, .inr ⟨_, by rw [hq1]; exact els_pre (by omega), hJx3⟩⟩
    · obtain rfl : k = 4 := by omega
      gi_wp2
      go_end0
      exact ⟨⟨_, rfl⟩, .inl ⟨pre, hpre, hJ⟩⟩

set_option maxHeartbeats 1000000 in
/-- **s.all()**: the pointer is boxed; the function value captures the box. -/
theorem all_in (n : Nat) (p : Option Addr) (w : World) :
    CallsIn Fence.wide n Tryd.prog 31 #[.pointer p] w fun e w' => e = .returned (.func (.func 33) #[] #[.pointer (some ⟨w.heap.size, 0, none⟩)]) ∧ w' = w.alloc (.cells #[.pointer p] 51) := by
  refine callsIn_of_wp Tryd.func31 rfl trivial ?_ rfl
  simp only [Tryd.ntmps31, List.size_toArray, List.length_cons, List.length_nil, Nat.reduceAdd, Nat.reduceSub, Array.replicate_succ, Array.replicate_zero, List.push_toArray, List.append_toArray, List.nil_append, List.cons_append]
  gi_wp2
  go_ret
  exact ⟨rfl, rfl⟩

/-- **s.all() hands back a value that goes through the class's bytes, rising.** -/
theorem all_stops (n : Nat) (hn : 1 ≤ n) (Bp Bs n₀ : Nat) (s : Nat → Bool) (hn₀ : 0 < n₀) (hle : n₀ ≤ Bs) (w : World) (hp : Bp < w.heap.size) (hBp : w.cell? ⟨Bp, 0, none⟩ = some (.pointer (some ⟨Bs, 0, none⟩)))
    (hBs : w.heap[Bs]? = some (.cells (clc s) 46 (0, 0))) (hT : Tab w) :
    SeqStopsK Fence.wide n Tryd.prog 33 #[.pointer (some ⟨Bp, 0, none⟩)] (fun x : Fin 256 => #[Value.int .u8 (x.val : Int)]) (KpS n₀ Bs) (fun ys => vals ys = els s 256) (fun pre => vals pre <+: els s 256) 256 w := fun l J Jx W hW hJ _ hY h0 =>
  have hs : Bs < w.heap.size := lt_of_block hBs
  all1_in n hn l Bp Bs n₀ s hn₀ J Jx (fun pre A h => hJ pre A A.drew none h ⟨rfl, rfl, rfl, Nat.le_refl _, fun _ _ _ => rfl⟩ (fun r e => by cases e)) hY W
    ((hW.cell (p := ⟨Bp, 0, none⟩) hp).trans hBp) ((hW.block Bs hs).trans hBs) (fun j hj => (hW.cell (p := ⟨0, j, none⟩) (by show 0 < _; omega)).trans (hT j hj)) h0

set_option maxHeartbeats 1000000 in
theorem ones_count (p : Nat → Bool) (x : Nat) (hx : x < 2 ^ 64) (h : ∀ i, i < 64 → x.testBit i = p i) (w : World) :
    Calls Tryd.prog 29 #[.int .u64 x] w fun e w' => e = .returned (.int .i64 (cnt p 64)) ∧ w' = w := by
  obtain ⟨a, b, c, e, f, g, h1, h2, h3, h4, h5, h6, l1, l2, l3, l4, l5, l6, l7, h7⟩ := pop_word p x hx h
  go_enter Tryd.func29, Tryd.ntmps29
  have ha : ∀ (y M : Nat), y < 2 ^ 64 → M < 18446744073709551616 → bits .and .u64 (y : Int) (M : Int) = ((y &&& M : Nat) : Int) := fun y M hy hM => bits_and_u64_nat y M (by omega) hM
  have hd : ∀ (y k : Nat), (y : Int) / ((2 ^ k : Nat) : Int) = ((y >>> k : Nat) : Int) := fun y k => by rw [Nat.shiftRight_eq_div_pow]; rfl
  have hw : ∀ y : Nat, y < 2 ^ 64 → IntKind.u64.wrap (y : Int) = (y : Int) := fun y hy => by rw [IntKind.wrap_u64]; omega
  have hs : ∀ y k : Nat, y < 2 ^ 64 → y >>> k < 2 ^ 64 := fun y k hy => Nat.lt_of_le_of_lt (Nat.shiftRight_le _ _) hy
  have hn : ∀ y z : Nat, (y : Int) + (z : Int) = ((y + z : Nat) : Int) := fun y z => rfl
  have e1 : (bits .and .u64 ((x : Int) / 2) 6148914691236517205 + bits .and .u64 (x : Int) 6148914691236517205) = (a : Int) := by
    have d := hd x 1
    rw [show ((2 ^ 1 : Nat) : Int) = 2 from rfl] at d
    have a1 := ha (x >>> 1) 6148914691236517205 (hs _ _ hx) (by omega)
    have a2 := ha x 6148914691236517205 hx (by omega)
    rw [show ((6148914691236517205 : Nat) : Int) = 6148914691236517205 from rfl] at a1 a2
    rw [d, a1, a2, hn, h1]
  have e2 : (bits .and .u64 ((a : Int) / 4) 3689348814741910323 + bits .and .u64 (a : Int) 3689348814741910323) = (b : Int) := by
    have d := hd a 2
    rw [show ((2 ^ 2 : Nat) : Int) = 4 from rfl] at d
    have a1 := ha (a >>> 2) 3689348814741910323 (hs _ _ l1) (by omega)
    have a2 := ha a 3689348814741910323 l1 (by omega)
    rw [show ((3689348814741910323 : Nat) : Int) = 3689348814741910323 from rfl] at a1 a2
    rw [d, a1, a2, hn, h2]
  have e3 : bits .and .u64 ((b : Int) / 16 + (b : Int)) 1085102592571150095 = (c : Int) := by
    have d := hd b 4
    rw [show ((2 ^ 4 : Nat) : Int) = 16 from rfl] at d
    have a1 := ha (b >>> 4 + b) 1085102592571150095 l3 (by omega)
    rw [show ((1085102592571150095 : Nat) : Int) = 1085102592571150095 from rfl] at a1
    rw [d, hn, a1, h3]
  have e4 : ((c : Int) + (c : Int) / 256) = (e : Int) := by
    have d := hd c 8
    rw [show ((2 ^ 8 : Nat) : Int) = 256 from rfl] at d
    rw [d, hn, h4]
  have e5 : ((e : Int) + (e : Int) / 65536) = (f : Int) := by
    have d := hd e 16
    rw [show ((2 ^ 16 : Nat) : Int) = 65536 from rfl] at d
    rw [d, hn, h5]
  have e6 : ((f : Int) + (f : Int) / 4294967296) = (g : Int) := by
    have d := hd f 32
    rw [show ((2 ^ 32 : Nat) : Int) = 4294967296 from rfl] at d
    rw [d, hn, h6]
  have w1 := hw a l1
  have w2 := hw b l2
  have w3 : IntKind.u64.wrap ((b : Int) / 16 + (b : Int)) = (b : Int) / 16 + (b : Int) := by
    have d := hd b 4
    rw [show ((2 ^ 4 : Nat) : Int) = 16 from rfl] at d
    rw [d, hn, hw _ l3]
  have w5 := hw e l5
  have w6 := hw f l6
  have w7 := hw g (by omega)
  have e7 : bits .and .i64 (g : Int) 127 = (cnt p 64 : Int) := by
    have hx : g &&& 127 < 2 ^ 7 := Nat.and_lt_two_pow _ (by omega)
    have b1 : (BitVec.ofInt 64 (g : Int)).toNat = g := by
      rw [BitVec.ofInt_natCast, BitVec.toNat_ofNat]; exact Nat.mod_eq_of_lt (by omega)
    have b2 : (BitVec.ofInt 64 (127 : Int)).toNat = 127 := by decide
    show IntKind.i64.wrap ((BitVec.ofInt 64 (g : Int) &&& BitVec.ofInt 64 (127 : Int)).toNat : Int) = _
    rw [BitVec.toNat_and, b1, b2, h7]
    rw [h7] at hx
    exact IntWalk.i64_in _ (by omega)
  have hg64 : IntKind.i64.wrap (g : Int) = (g : Int) := IntWalk.i64_in _ (by omega)
  go_wp2_with (simp only [e1, w1, e2, w2, w3, e3, e4, w5, e5, w6, e6, w7, hg64, e7])
  go_ret
  exact ⟨rfl, rfl⟩
end Go.Proofs.YtchjlgmnfepedaaDoor
