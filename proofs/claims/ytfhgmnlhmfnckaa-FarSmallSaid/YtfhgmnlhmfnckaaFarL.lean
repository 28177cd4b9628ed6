/-
  Chapter far: the law's small helpers: of, every, there.
-/
import Derived.Test.YtfhgmnlhmfnckaaFarG
import Derived.Test.YtfhgmnlhmfnckaaRef01
namespace Go.Proofs.Ytfhgmnlhmfnckaa
open Go.RowKit Go.Lib

theorem word_all (k : Nat) : word (clNot clNone) k = 18446744073709551615 := by
  refine (word_eq (x := 18446744073709551615) (by omega) (fun i hi => ?_)).symm
  rw [show 18446744073709551615 = 2 ^ 64 - 1 from rfl, Nat.testBit_two_pow_sub_one]
  simp [clNot, clNone, hi]

set_option maxHeartbeats 400000 in
theorem law_every (w : World) : Calls Try.prog 34 #[] w fun e w' => e = .returned (clv (clNot clNone)) ∧ Below w.heap.size w w' := by
  have e : clv (clNot clNone) = .agg #[.int .u64 18446744073709551615, .int .u64 18446744073709551615, .int .u64 18446744073709551615, .int .u64 18446744073709551615] := by
    unfold clv clc
    simp only [word_all]
    rfl
  rw [e]
  go_enter Try.func34, Try.ntmps34
  go_wp2
  refine bodyPost_ret (results_cell_row rfl _ _ w.heap.size _ _ _ _ rfl (heap_alloc_new _ _) Try.und_class rfl Try.size_class) rfl ⟨rfl, (Below.refl _ _).alloc (Nat.le_refl _) _⟩

set_option maxRecDepth 100000 in
set_option maxHeartbeats 1000000 in
theorem law_of (w : World) (s : ByteArray) (hs : s.size ≤ 1000000) :
    Calls Try.prog 17 #[.string s] w fun e w' => e = .returned (clv (clOf s.data.toList)) ∧ Below w.heap.size w w' := by
  go_enter Try.func17, Try.ntmps17
  go_wp2
  go_loopw [4] (fun i wr => ∃ k : Nat, k ≤ s.size ∧ i = .int .i64 k ∧ wr.heap[w.heap.size + 1]? = some (.cells (clc (clOf (s.data.toList.take k))) 29 (0, 0)) ∧ wr.heap[w.heap.size]? = some (.cells #[.int .u64 0, .int .u64 0, .int .u64 0, .int .u64 0] 29 (0, 0)) ∧ Below w.heap.size w wr) (fun i _ => s.size - (intOf i).toNat)
  case atStart =>
    refine ⟨0, by omega, rfl, ?_, heap_alloc2_old _ _ _, ((Below.refl _ _).alloc (Nat.le_refl _) _).alloc (by simp) _⟩
    rw [show clOf (s.data.toList.take 0) = clNone from by funext b; simp [clOf, clNone], clc_none]
    exact heap_alloc2_new _ _ _
  case round =>
    obtain ⟨k, hk, rfl, hh, hr, hb⟩ := hrel
    by_cases hlt : k < s.size
    · have hl : k < s.data.toList.length := by simpa using hlt
      have HH := Lib.hid hh
      have HR := Lib.hid hr
      have HB := Lib.hid hb
      have hb8 : s[k].toNat < 256 := s[k].toNat_lt
      obtain ⟨hc, hf⟩ := block_cell' hh (s[k].toNat / 64)
      rw [clc_get _ (by omega)] at hc
      have hwlt := word_lt (clOf (s.data.toList.take k)) (s[k].toNat / 64)
      clear hh hr hb
      have hltI : (k : Int) < s.size := by omega
      go_wp2_with fail
      go_still_tail 17, (by kernel_rfl)
      have h0 : (0 : Int) ≤ (s[k].toNat : Int) / 64 := by omega
      have h4 : (s[k].toNat : Int) / 64 < 4 := by omega
      have ht : ((s[k].toNat : Int) / 64).toNat = s[k].toNat / 64 := by omega
      have hq1 : IntKind.u8.wrap ((s[k].toNat : Int) / 64) = (s[k].toNat : Int) / 64 := by rw [IntKind.wrap_u8']; omega
      have hq2 : ((s[k].toNat : Int)).tmod 64 = (s[k].toNat : Int) % 64 := Int.tmod_eq_emod_of_nonneg (by omega)
      have hq3 : (0 : Int) ≤ (s[k].toNat : Int) % 64 := by omega
      have hq4 : ((s[k].toNat : Int) % 64).toNat = s[k].toNat % 64 := by omega
      repeat still_step
      try refine wpStill_nil ?_
      go_wp2
      go_roundw
      case rel =>
        have hw := put_word (clOf (s.data.toList.take k)) s[k].toNat
        rw [Int.one_mul] at hw
        refine ⟨k + 1, by omega, by go_num, ?_, ?_, ((HB.out.setCell (p := ⟨w.heap.size + 1, _, none⟩) (by simp) _)).drew⟩
        · show (World.setCell _ _ _).heap[_]? = _
          rw [block_setCell' HH.out, hw, put_cells _ hb8, clOf_take _ hl]
          rfl
        · show (World.setCell _ _ _).heap[_]? = _
          rw [Below.heap_setCell _ _ _ _ (by simp)]
          exact HR.out
      case measure => simp [intOf]; omega
    · obtain rfl : k = s.size := by omega
      rw [List.take_of_length_le (by simp)] at hh
      obtain ⟨c0, c1, c2, c3⟩ := cls_cells hh
      obtain ⟨⟨r0, f0⟩, ⟨r1, f1⟩, ⟨r2, f2⟩, ⟨r3, f3⟩⟩ := four_cells hr
      have HR := Lib.hid hr
      clear hr hh
      have hlt' : ¬ (s.size : Int) < s.size := by omega
      go_wp2
      have hst := store4 (u0 := .int .u64 (word (clOf s.data.toList) 0)) (u1 := .int .u64 (word (clOf s.data.toList) 1)) (u2 := .int .u64 (word (clOf s.data.toList) 2)) (u3 := .int .u64 (word (clOf s.data.toList) 3)) HR.out
      refine bodyPost_ret (results_cell_row rfl _ _ w.heap.size _ _ _ _ rfl hst Try.und_class rfl Try.size_class) rfl ⟨rfl, ?_⟩
      exact (((((Keeps.ofBelow hb).setCell (by simp) _).setCell (by simp) _).setCell (by simp) _).setCell (by simp) _).below (Nat.le_refl _) (fun k hk => hk)

/-- an asking: its cells. -/
def askv (c : Nat → Bool) (place : Int) : Value := .agg #[.int .u64 (word c 0), .int .u64 (word c 1), .int .u64 (word c 2), .int .u64 (word c 3), .int .i64 place]

set_option maxRecDepth 100000 in
set_option maxHeartbeats 1000000 in
theorem law_there (w : World) (v : Value) (W : List UInt8) (c : Nat → Bool) (place : Int) (hv : BytesAt w v W) (h0 : 0 ≤ place) :
    Calls Try.prog 11 #[v, askv c place] w fun e w' => e = .returned (.bool (thereB W c place)) ∧ Below w.heap.size w w' := by
  obtain ⟨k, rfl⟩ : ∃ k : Nat, place = k := ⟨place.toNat, by omega⟩
  unfold askv
  obtain ⟨ao, b, off, cap, rfl, hl2, hm2, _, hao, hcw⟩ := hv
  have hb := heap_alloc_new w (.cells #[.int .u64 (word c 0), .int .u64 (word c 1), .int .u64 (word c 2), .int .u64 (word c 3), .int .i64 k] 31 (0, 0))
  have h4 := (block_cell' hb 4).1
  have h4' : (w.alloc (.cells #[.int .u64 (word c 0), .int .u64 (word c 1), .int .u64 (word c 2), .int .u64 (word c 3), .int .i64 k] 31 (0, 0))).cell? ⟨w.heap.size, 4, none⟩ = some (.int .i64 k) := h4
  by_cases hk : k < W.length
  · rw [thereB_in hk]
    obtain rfl := hao (by omega)
    have hcb := hcw k hk
    have hbl := World.block_lt_of_cell? _ _ hcb
    have hu : W[k].toNat < 256 := W[k].toNat_lt
    have hcc : (#[Value.int .u64 (word c 0), .int .u64 (word c 1), .int .u64 (word c 2), .int .u64 (word c 3), .int .i64 k])[W[k].toNat / 64]? = some (.int .u64 (word c (W[k].toNat / 64))) := by
      rcases (by omega : W[k].toNat / 64 = 0 ∨ W[k].toNat / 64 = 1 ∨ W[k].toNat / 64 = 2 ∨ W[k].toNat / 64 = 3) with e | e | e | e <;> rw [e] <;> rfl
    have hw := (block_cell' hb (W[k].toNat / 64)).1.trans hcc
    have hkI : (k : Int) < W.length := by omega
    have hd1 : decide ((k : Int) < W.length) = true := by simpa using hk
    have hd2 : decide (k < W.length) = true := by simpa using hk
    have hlt := word_lt c (W[k].toNat / 64)
    have hr := has_word2 c W[k].toNat
    obtain ⟨u, hu0⟩ : ∃ u, u = W[k].toNat := ⟨_, rfl⟩
    rw [← hu0] at hcb hu hw hlt hr ⊢
    have HR := Lib.hid hr
    clear hb h4 hcc hcw hao hu0 hr
    have hq1 : IntKind.u8.wrap ((u : Int) / 64) = (u : Int) / 64 := by rw [IntKind.wrap_u8']; omega
    have hq2 : ((u : Int)).tmod 64 = (u : Int) % 64 := Int.tmod_eq_emod_of_nonneg (by omega)
    have hq3 : (0 : Int) ≤ (u : Int) % 64 := by omega
    have hq4 : ((u : Int) % 64).toNat = u % 64 := by omega
    have hq5 : (0 : Int) ≤ (u : Int) / 64 := by omega
    have hq6 : (u : Int) / 64 < 4 := by omega
    have hq7 : ((u : Int) / 64).toNat = u / 64 := by omega
    go_enter Try.func11, Try.ntmps11
    go_wp2
    go_quiet (fail)
    go_wp2
    go_ret
    have hfin : (((word c (u / 64) : Int) / 2 ^ (u % 64)).tmod 2 == 1) = c u := by
      rw [Int.tmod_eq_emod_of_nonneg (Int.ediv_nonneg (Int.natCast_nonneg _) (Int.pow_nonneg (by decide)))]
      exact HR.out
    exact ⟨ret_bool' hfin, below_draws ((Below.refl _ _).alloc (Nat.le_refl _) _) _⟩
  · rw [thereB_out hk]
    have hkI : ¬ (k : Int) < W.length := by omega
    have hd1 : decide ((k : Int) < W.length) = false := by simpa using hk
    have hd2 : decide (k < W.length) = false := by simpa using hk
    clear hb h4 hao hcw
    go_enter Try.func11, Try.ntmps11
    go_wp2
    go_quiet (fail)
    go_wp2
    go_ret
    exact ⟨rfl, below_draws ((Below.refl _ _).alloc (Nat.le_refl _) _) _⟩
end Go.Proofs.Ytfhgmnlhmfnckaa
