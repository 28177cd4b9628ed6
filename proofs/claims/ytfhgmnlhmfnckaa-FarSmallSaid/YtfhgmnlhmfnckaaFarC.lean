/-
  Package far: a record's methods, on.
-/
import Derived.Test.YtfhgmnlhmfnckaaFarB
namespace Go.Proofs.Ytfhgmnlhmfnckaa
open Go.RowKit Go.Lib

set_option maxHeartbeats 4000000 in
theorem far_Set_out {H : Nat → Prop} {a : Nat} {init : List Part} {p : Part} {W : List UInt8} (w : World) (c : Nat → Bool) (k : Nat) (h : Far H w a (init ++ [p]) W) (hlt : ¬ k < W.length) :
    Calls Try.prog 10 #[.pointer (some ⟨a, 0, none⟩), clv c, .int .i64 k] w fun e w' => e = .returned (.bool false) ∧ Far H w' a (init ++ [missP p k c]) W ∧ Keeps H w w' := by
  have hal := h.1 a h.2.1
  obtain ⟨g, cap, wv, c0, c1, hW, hmade0, hlast0, hmiss0⟩ := h.miss k c
  have hmade := Lib.hid hmade0
  have hlast := Lib.hid hlast0
  obtain ⟨ao, b, off, cap2, rfl, hl2, hm2, _, hao, hcw⟩ := hW
  have hltI : ¬ (k : Int) < W.length := by omega
  unfold clv clc at hmiss0 ⊢
  have hmiss := Lib.hid hmiss0
  clear hmiss0 hlast0 hmade0 h hcw hao
  obtain ⟨⟨r0, _⟩, ⟨r1, _⟩, ⟨r2, _⟩, ⟨r3, _⟩⟩ := four_cells (heap_alloc_new w (.cells (clc c) 29 (0, 0)))
  have hB := Lib.hid ((Below.refl w.heap.size w).alloc (Nat.le_refl _) (.cells (clc c) 29 (0, 0)))
  go_enter Try.func10, Try.ntmps10
  go_wp2_with (go_at_call 37; refine (hmade.out _ ((Below.refl _ _).alloc (Nat.le_refl _) _)).mono ?_; rintro e w' ⟨rfl, rfl⟩)
  go_quiet (fail)
  go_wp2
  go_region_with (first
    | (go_at_call 39; refine (hlast.out _ (by repeat (first | exact hB.out | refine Below.drew ?_ | refine below_draws ?_ _))).mono ?_; rintro e w'' ⟨rfl, m, rfl⟩)
    | (go_at_call 40; refine (hmiss.out _ (by repeat (first | exact hB.out | refine Below.drew ?_ | refine below_draws ?_ _))).mono ?_; rintro e w'' ⟨rfl, hF, hK⟩))
  all_goals go_wp2
  all_goals go_ret
  all_goals first
    | exact ⟨rfl, hF, hK⟩
    | exact ⟨rfl, hF.keep ((Keeps.refl (fun _ => False) _).drew) (fun _ _ h => h), hK.drew⟩
    | exact ⟨rfl, hF.keep ((Keeps.refl (fun _ => False) _).drewN _) (fun _ _ h => h), hK.drewN _⟩

set_option maxHeartbeats 400000 in
theorem far_Set_neg {H : Nat → Prop} {a : Nat} {init : List Part} {p : Part} {W : List UInt8} (w : World) (c : Nat → Bool) (place : Int) (h : Far H w a (init ++ [p]) W) (hlt : place < 0) :
    Calls Try.prog 10 #[.pointer (some ⟨a, 0, none⟩), clv c, .int .i64 place] w fun e w' => e = .returned (.bool false) ∧ Below w.heap.size w w' := by
  obtain ⟨g, cap, wv, c0, c1, hW, hmade0, hlast0, hmiss0⟩ := h.miss place c
  have hmade := Lib.hid hmade0
  unfold clv clc
  clear hmiss0 hlast0 hmade0 h hW c0 c1
  go_enter Try.func10, Try.ntmps10
  go_wp2_with (go_at_call 37; refine (hmade.out _ ((Below.refl _ _).alloc (Nat.le_refl _) _)).mono ?_; rintro e w' ⟨rfl, rfl⟩)
  go_ret
  exact ⟨rfl, (Below.refl _ _).alloc (Nat.le_refl _) _⟩

/-- is a byte of a class at a place? -/
def thereB (W : List UInt8) (c : Nat → Bool) (place : Int) : Bool := decide (0 ≤ place) && hit W c place
/-- what asking leaves of the innermost part. -/
def askA (W : List UInt8) (p : Part) (c : Nat → Bool) (place : Int) : Part := if place < 0 then p else askP W p c place
theorem thereB_neg {W : List UInt8} {c : Nat → Bool} {place : Int} (h : place < 0) : thereB W c place = false := by
  have : ¬ 0 ≤ place := by omega
  simp [thereB, this]
theorem thereB_in {W : List UInt8} {c : Nat → Bool} {k : Nat} (h : k < W.length) : thereB W c k = c W[k].toNat := by
  have h2 : (k : Int) < W.length := by omega
  simp [thereB, hit, h2, h]
theorem thereB_out {W : List UInt8} {c : Nat → Bool} {k : Nat} (h : ¬ k < W.length) : thereB W c k = false := by
  have h2 : ¬ (k : Int) < W.length := by omega
  simp [thereB, hit, h2]
theorem askA_hit {W : List UInt8} {p : Part} {c : Nat → Bool} {place : Int} (h : thereB W c place = true) : askA W p c place = p := by
  unfold thereB at h
  simp only [Bool.and_eq_true, decide_eq_true_eq] at h
  unfold askA askP
  rw [if_neg (by omega), if_pos h.2]
theorem askA_miss {W : List UInt8} {p : Part} {c : Nat → Bool} {place : Int} (h0 : 0 ≤ place) (h : thereB W c place = false) : askA W p c place = missP p place c := by
  unfold thereB at h
  simp only [h0, decide_true, Bool.true_and] at h
  unfold askA askP
  rw [if_neg (by omega), if_neg (by simp [h])]
theorem askA_neg {W : List UInt8} {p : Part} {c : Nat → Bool} {place : Int} (h : place < 0) : askA W p c place = p := if_pos h

/-- a byte of a class is asked for, anywhere. -/
theorem far_Set {H : Nat → Prop} {a : Nat} {init : List Part} {p : Part} {W : List UInt8} (w : World) (c : Nat → Bool) (place : Int) (h : Far H w a (init ++ [p]) W) :
    Calls Try.prog 10 #[.pointer (some ⟨a, 0, none⟩), clv c, .int .i64 place] w fun e w' => e = .returned (.bool (thereB W c place)) ∧ Far H w' a (init ++ [askA W p c place]) W ∧ Keeps H w w' := by
  by_cases h0 : place < 0
  · rw [thereB_neg h0, askA_neg h0]
    refine (far_Set_neg w c place h h0).mono ?_
    rintro e w' ⟨rfl, hb⟩
    exact ⟨rfl, h.later hb, Keeps.ofNew hb _⟩
  · obtain ⟨k, rfl⟩ : ∃ k : Nat, place = k := ⟨place.toNat, by omega⟩
    by_cases hk : k < W.length
    · cases hc : c W[k].toNat
      · have ht : thereB W c k = false := by rw [thereB_in hk, hc]
        rw [ht, askA_miss (by omega) ht]
        exact far_Set_miss w c k h hk hc
      · have ht : thereB W c k = true := by rw [thereB_in hk, hc]
        rw [ht, askA_hit ht]
        exact far_Set_hit w c k h hk hc
    · have ht : thereB W c k = false := thereB_out hk
      rw [ht, askA_miss (by omega) ht]
      exact far_Set_out w c k h hk

set_option maxHeartbeats 400000 in
theorem far_Any {H : Nat → Prop} {a : Nat} {init : List Part} {p : Part} {W : List UInt8} (w : World) (place : Int) (h : Far H w a (init ++ [p]) W) :
    Calls Try.prog 23 #[.pointer (some ⟨a, 0, none⟩), .int .i64 place] w fun e w' => e = .returned (.bool (thereB W (clNot clNone) place)) ∧ Far H w' a (init ++ [askA W p (clNot clNone) place]) W ∧ Keeps H w w' := by
  have hnot := fun w1 => class_Not w1 clNone
  have e0 : clv clNone = .agg #[.int .u64 0, .int .u64 0, .int .u64 0, .int .u64 0] := by unfold clv; rw [clc_none]
  rw [e0] at hnot
  have Hnot := Lib.hid hnot
  have HF := Lib.hid h
  clear hnot e0 h
  go_enter Try.func23, Try.ntmps23
  go_wp2_with (first
    | (go_at_call 45; refine (Hnot.out _).mono ?_; rintro e w' ⟨rfl, hb⟩)
    | (go_at_call 10; refine (far_Set _ _ _ (HF.out.later hb)).mono ?_; rintro e w'' ⟨rfl, hF, hK⟩))
  go_ret
  exact ⟨rfl, hF, (Keeps.ofNew hb _).trans hK⟩

set_option maxHeartbeats 4000000 in
theorem far_Miss {H : Nat → Prop} {a : Nat} {init : List Part} {p : Part} {W : List UInt8} (w : World) (c : Nat → Bool) (place : Int) (h : Far H w a (init ++ [p]) W) :
    Calls Try.prog 29 #[.pointer (some ⟨a, 0, none⟩), .int .i64 place, clv c] w fun e w' => e = .returned (.tuple #[]) ∧ Far H w' a (init ++ [if place < 0 then p else missP p place c]) W ∧ Keeps H w w' := by
  have hal := h.1 a h.2.1
  have HF := Lib.hid h
  obtain ⟨g, cap, wv, c0, c1, hW, hmade0, hlast0, hmiss0⟩ := h.miss place c
  have hmade := Lib.hid hmade0
  have hlast := Lib.hid hlast0
  unfold clv clc at hmiss0 ⊢
  have hmiss := Lib.hid hmiss0
  clear hmiss0 hlast0 hmade0 h hW
  obtain ⟨⟨r0, _⟩, ⟨r1, _⟩, ⟨r2, _⟩, ⟨r3, _⟩⟩ := four_cells (heap_alloc_new w (.cells (clc c) 29 (0, 0)))
  have hB := Lib.hid ((Below.refl w.heap.size w).alloc (Nat.le_refl _) (.cells (clc c) 29 (0, 0)))
  by_cases h0 : place < 0
  · have h1 : ¬ 0 ≤ place := by omega
    rw [if_pos h0]
    go_enter Try.func29, Try.ntmps29
    go_wp2_with (go_at_call 37; refine (hmade.out _ ((Below.refl _ _).alloc (Nat.le_refl _) _)).mono ?_; rintro e w' ⟨rfl, rfl⟩)
    go_end0
    exact ⟨rfl, HF.out.later hB.out, Keeps.ofNew hB.out _⟩
  · have h1 : 0 ≤ place := by omega
    rw [if_neg h0]
    go_enter Try.func29, Try.ntmps29
    go_wp2_with (go_at_call 37; refine (hmade.out _ ((Below.refl _ _).alloc (Nat.le_refl _) _)).mono ?_; rintro e w' ⟨rfl, rfl⟩)
    go_region_with (first
      | (go_at_call 39; refine (hlast.out _ (by repeat (first | exact hB.out | refine Below.drew ?_ | refine below_draws ?_ _))).mono ?_; rintro e w'' ⟨rfl, m, rfl⟩)
      | (go_at_call 40; refine (hmiss.out _ (by repeat (first | exact hB.out | refine Below.drew ?_ | refine below_draws ?_ _))).mono ?_; rintro e w'' ⟨rfl, hF, hK⟩))
    all_goals go_wp2
    all_goals go_end0
    all_goals first
      | exact ⟨rfl, hF, hK⟩
      | exact ⟨rfl, hF.keep ((Keeps.refl (fun _ => False) _).drew) (fun _ _ h => h), hK.drew⟩
      | exact ⟨rfl, hF.keep ((Keeps.refl (fun _ => False) _).drewN _) (fun _ _ h => h), hK.drewN _⟩
end Go.Proofs.Ytfhgmnlhmfnckaa
