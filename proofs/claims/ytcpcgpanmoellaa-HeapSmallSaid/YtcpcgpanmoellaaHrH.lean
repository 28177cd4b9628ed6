/-
  The chapter's example.
-/
import Derived.Test.YtcpcgpanmoellaaHrG
namespace Go.Proofs.Ytcpcgpanmoellaa
open Go.RowKit Go.Lib

theorem first_one {t : Int} {M : List En} (ht : Trn t M) {a b : En} (ha : FirstN M a) (hb : FirstN M b) : a = b := by
  have h1 := ha.2 b hb.1
  have h2 := hb.2 a ha.1
  have h3 : a.turn = b.turn := by unfold En.le En.lt at h1 h2; omega
  obtain ⟨i, hi, rfl⟩ := List.mem_iff_getElem.1 ha.1
  obtain ⟨j, hj, rfl⟩ := List.mem_iff_getElem.1 hb.1
  have h4 := List.pairwise_iff_getElem.1 ht.srt
  rcases Nat.lt_trichotomy i j with h | h | h
  · have := h4 i j hi hj h; omega
  · subst h; rfl
  · have := h4 j i hj hi h; omega
def awL : List (Int × Int) := [(5, 1), (3, 2), (5, 3), (3, 4)]
def awM : Nat → List En
  | 0 => [⟨9, 1, 0⟩, ⟨3, 2, 1⟩, ⟨5, 3, 2⟩, ⟨3, 4, 3⟩]
  | 1 => [⟨9, 1, 0⟩, ⟨5, 3, 2⟩, ⟨3, 4, 3⟩]
  | 2 => [⟨9, 1, 0⟩, ⟨5, 3, 2⟩]
  | 3 => [⟨9, 1, 0⟩]
  | _ => []
def awE : Nat → En
  | 0 => ⟨3, 2, 1⟩
  | 1 => ⟨3, 4, 3⟩
  | 2 => ⟨5, 3, 2⟩
  | _ => ⟨9, 1, 0⟩
theorem aw_first (k : Nat) (h : k < 4) : FirstN (awM k) (awE k) := by
  have : k = 0 ∨ k = 1 ∨ k = 2 ∨ k = 3 := by omega
  unfold FirstN En.le
  rcases this with rfl | rfl | rfl | rfl <;> decide
theorem aw_drop (k : Nat) (h : k < 4) : dropN (awM k) (awE k).name = awM (k + 1) := by
  have : k = 0 ∨ k = 1 ∨ k = 2 ∨ k = 3 := by omega
  rcases this with rfl | rfl | rfl | rfl <;> decide
theorem aw_ne (k : Nat) (h : k < 4) : awM k ≠ [] := by
  have : k = 0 ∨ k = 1 ∨ k = 2 ∨ k = 3 := by omega
  rcases this with rfl | rfl | rfl | rfl <;> decide
theorem aw_cell {w : World} {b : Nat} (h : w.heap[b]? = some (.cells #[.int .i64 2, .int .i64 4, .int .i64 3, .int .i64 1] 3 (0, 0))) (k : Nat) (hk : k < 4) : w.cell? ⟨b, k, none⟩ = some (.int .i64 (awE k).name) := by
  have : k = 0 ∨ k = 1 ∨ k = 2 ∨ k = 3 := by omega
  rcases this with rfl | rfl | rfl | rfl <;> simp [World.cell?, h, awE]
theorem aw_it {w : World} {b : Nat} (h : w.heap[b]? = some (.cells #[.int .i64 5, .int .i64 1, .int .i64 3, .int .i64 2, .int .i64 5, .int .i64 3, .int .i64 3, .int .i64 4] 30 (0, 0))) : ItAt w (.slice (some ⟨b, 0, none⟩) 4 4) awL := by
  refine ⟨_, b, 0, 4, rfl, fun _ => ⟨rfl, _, _, h⟩, fun i hi => ?_⟩
  have hi' : i < 4 := hi
  have : i = 0 ∨ i = 1 ∨ i = 2 ∨ i = 3 := by omega
  rcases this with rfl | rfl | rfl | rfl <;> simp [World.cell?, h, awL]
theorem kx_small {n : Int} (h : -1000000 ≤ n) (h2 : n ≤ 1000000) : (kx n).wf = true := by simp [Lit.wf, IntKind.min, IntKind.max, IntKind.signed, IntKind.bits]; omega
/-- a round of the example. -/
structure AwS (base q wb : Nat) (wr : World) (k : Nat) : Prop where
  qu : Qu base wr q 4 (awM k)
  want : wr.heap[wb]? = some (.cells #[.int .i64 2, .int .i64 4, .int .i64 3, .int .i64 1] 3 (0, 0))
  bel : base ≤ wr.heap.size
theorem AwS.next {base q wb k : Nat} {wr w1 : World} (h : AwS base q wb wr k) {M : List En} (hM : M = awM (k + 1)) (hq : Qu base w1 q 4 M) (hk : KeepQ base q wr w1) : AwS base q wb w1 (k + 1) := by
  subst hM
  exact ⟨hq, hk.cells h.want (by decide) (fun e => by obtain ⟨cs, h1⟩ := h.qu.qblk; rw [← e, h.want] at h1; simp at h1), Nat.le_trans h.bel hk.size⟩
theorem quTake_is [Watch] {base : Nat} {q : Nat} {t : Int} {M : List En} {e : En} (w : World) (h : Qu base w q t M) (he : FirstN M e) :
    Calls Try.prog 13 #[.pointer (some ⟨q, 0, none⟩)] w fun en w' => en = .returned (.tuple #[.agg #[.int .i64 e.key, .int .i64 e.name], .bool true]) ∧ Qu base w' q t (dropN M e.name) ∧ KeepQ base q w w' := by
  refine (quTake w h (fun h0 => by rw [h0] at he; exact absurd he.1 (by simp))).mono ?_
  rintro en w1 ⟨e', h1, rfl, h2, h3⟩
  obtain rfl := first_one h.trn he h1
  exact ⟨rfl, h2, h3⟩
set_option maxRecDepth 100000 in
set_option maxHeartbeats 4000000 in
theorem awake_any (w : World) : Calls Try.prog 7 #[] w fun en w' => en = .returned (.bool true) ∧ Below w.heap.size w w' := by
  have hnew : ∀ u : World, Below w.heap.size w u → ItAt u (.slice (some ⟨w.heap.size, 0, none⟩) 4 4) awL → Calls Try.prog 8 #[.slice (some ⟨w.heap.size, 0, none⟩) 4 4] u fun en w' => ∃ q, en = .returned (.tuple #[.pointer (some ⟨q, 0, none⟩), .int .i64 0]) ∧ Qu w.heap.size w' q 4 [⟨5, 1, 0⟩, ⟨3, 2, 1⟩, ⟨5, 3, 2⟩, ⟨3, 4, 3⟩] ∧ Below w.heap.size w w' := fun u hb hv => by
    refine (quNew (base := w.heap.size) (l := awL) u hb.size (Nat.zero_le _) hv (by unfold awL; simp; exact ⟨kx_small (by omega) (by omega), kx_small (by omega) (by omega), kx_small (by omega) (by omega), kx_small (by omega) (by omega)⟩) (by decide) (by decide)).mono ?_
    rintro en w1 ⟨q, rfl, -, h1, h2⟩
    exact ⟨q, rfl, h1, hb.trans (h2.mono hb.size)⟩
  have HNew := Lib.hid hnew
  have HB0 := Lib.hid (one_new w (.cells #[.int .i64 5, .int .i64 1, .int .i64 3, .int .i64 2, .int .i64 5, .int .i64 3, .int .i64 3, .int .i64 4] 30))
  clear hnew
  go_enter Try.func7, Try.ntmps7
  go_wp2_with fail
  refine (HNew.out _ HB0.out.1 (aw_it HB0.out.2)).mono ?_
  rintro en w1 ⟨q, rfl, hq, hb1⟩
  have HB1 := Lib.hid hb1
  have HMv := Lib.hid (quMove 1 9 w1 hq (kx_small (by omega) (by omega)))
  clear hb1 hq
  go_wp2_with fail
  refine HMv.out.mono ?_
  rintro en w2 ⟨rfl, hq, hk⟩
  have hq' : Qu w.heap.size w2 q 4 (awM 0) := hq
  have hb2 := HB1.out.trans (hk.below HB1.out.size hq.base)
  have HQ := Lib.hid hq'
  have HB2 := Lib.hid hb2
  have e1 : hasN [⟨5, 1, 0⟩, ⟨3, 2, 1⟩, ⟨5, 3, 2⟩, ⟨3, 4, 3⟩] 1 = true := by decide
  rw [e1]
  clear hq hk hq' hb2 e1
  go_upto_region 5 with (fail)
  refine gen_world (S := fun u => Below w.heap.size w u ∧ AwS w.heap.size q w2.heap.size u 0) ?_ (fun u hu => ?_)
  · obtain ⟨h1, h2⟩ := one_new w2 (.cells #[.int .i64 2, .int .i64 4, .int .i64 3, .int .i64 1] 3)
    have h3 := HB2.out.trans (h1.mono HB2.out.size)
    exact ⟨h3, HQ.out.later h1, h2, h3.size⟩
  obtain ⟨hb, hs⟩ := hu
  have HB := Lib.hid hb
  have HS0 := Lib.hid hs
  clear hb hs
  go_wp2
  go_loopw [4] (fun i wr => ∃ k : Nat, k ≤ 4 ∧ i = .int .i64 k ∧ AwS w.heap.size q w2.heap.size wr k ∧ Below w.heap.size w wr) (fun i _ => 4 - (intOf i).toNat)
  case atStart => exact ⟨0, by omega, rfl, HS0.out, HB.out⟩
  case round =>
    obtain ⟨k, hk, rfl, hs, hb⟩ := hrel
    have HS := Lib.hid hs
    have HBr := Lib.hid hb
    clear hb
    by_cases hlt : k < 4
    · have hlt2 : (k : Int) < 4 := by omega
      have HT := Lib.hid (quTake_is wr hs.qu (aw_first k hlt))
      have HK := Lib.hid hlt
      clear hs
      go_wp2_with fail
      refine HT.out.mono ?_
      rintro en w3 ⟨rfl, hq3, hk3⟩
      have HS3 := Lib.hid (HS.out.next (aw_drop k HK.out) hq3 hk3)
      have HB3 := Lib.hid (HBr.out.trans (hk3.below HBr.out.size hq3.base))
      clear hq3 hk3
      go_upto_region 9 with (fail)
      refine gen_world (S := fun u => Below w3.heap.size w3 u ∧ u.heap[w3.heap.size]? = some (.cells #[.int .i64 (awE k).key, .int .i64 (awE k).name] 30 (0, 0))) (one_new w3 _) (fun u hu => ?_)
      obtain ⟨hb, hx⟩ := hu
      have HBu := Lib.hid hb
      obtain ⟨x0, x1⟩ := two_box hx
      have hc := aw_cell ((hb.block _ (lt_of_block HS3.out.want)).trans HS3.out.want) k HK.out
      clear hb hx
      go_quiet (fail)
      go_wp2
      go_roundw
      case rel => exact ⟨k + 1, by omega, by go_num, ⟨HS3.out.qu.later (below_draws HBu.out _), ((below_draws HBu.out _).block _ (lt_of_block HS3.out.want)).trans HS3.out.want, Nat.le_trans HS3.out.bel HBu.out.size⟩, below_draws (HB3.out.trans (HBu.out.mono HB3.out.size)) _⟩
      case measure => simp [intOf]; omega
    · have hk4 : k = 4 := by omega
      have HL := Lib.hid (quLen wr hs.qu)
      rw [hk4] at HL
      have hk5 : ¬ (k : Int) < 4 := by omega
      clear hs hk4
      go_wp2_with fail
      refine HL.out.mono ?_
      rintro en w3 ⟨rfl, rfl⟩
      go_wp2
      go_ret
      exact ⟨rfl, HBr.out⟩
end Go.Proofs.Ytcpcgpanmoellaa
