/-
  Chapter far: no record: the methods; none.
-/
import Derived.Test.YtfhgmnlhmfnckaaFarG
import Derived.Test.YtfhgmnlhmfnckaaFarL
import Derived.Test.YtfhgmnlhmfnckaaEqC
namespace Go.Proofs.Ytfhgmnlhmfnckaa
open Go.RowKit Go.Lib

/-- a record that was not made. -/
def NoRec (w : World) (p : Value) : Prop := p = .pointer none ∨ ∃ b, p = .pointer (some ⟨b, 0, none⟩) ∧ w.heap[b]? = some (.cells #[.slice none 0 0, .slice none 0 0] 68 (0, 0))
theorem NoRec.later {w w' : World} {p : Value} (h : NoRec w p) (hb : Below w.heap.size w w') : NoRec w' p := by
  rcases h with rfl | ⟨b, rfl, h⟩
  · exact .inl rfl
  · exact .inr ⟨b, rfl, (hb.block _ (lt_of_block h)).trans h⟩
set_option maxHeartbeats 400000 in
theorem none_made (w : World) (p : Value) (h : NoRec w p) : Calls Try.prog 37 #[p] w fun e w' => e = .returned (.bool false) ∧ w = w' := by
  rcases h with rfl | ⟨b, rfl, h⟩
  · go_enter Try.func37, Try.ntmps37
    go_wp2
    go_ret
    exact ⟨rfl, rfl⟩
  · obtain ⟨c0, _⟩ := block_cell' h 0
    have c0' : w.cell? ⟨b, 0, none⟩ = some (.slice none 0 0) := c0
    clear h c0
    go_enter Try.func37, Try.ntmps37
    go_wp2
    go_ret
    exact ⟨rfl, rfl⟩
set_option maxHeartbeats 400000 in
theorem none_Far (w : World) (p : Value) (h : NoRec w p) : Calls Try.prog 12 #[p] w fun e w' => e = .returned (.int .i64 0) ∧ w = w' := by
  have hmade := Lib.hid (none_made w p h)
  clear h
  go_enter Try.func12, Try.ntmps12
  go_wp2_with (go_at_call 37; refine hmade.out.mono ?_; rintro e w' ⟨rfl, rfl⟩)
  go_ret
  exact ⟨rfl, rfl⟩
set_option maxHeartbeats 400000 in
theorem none_Begin (w : World) (p : Value) (h : NoRec w p) : Calls Try.prog 14 #[p] w fun e w' => e = .returned (.int .i64 0) ∧ w = w' := by
  have hmade := Lib.hid (none_made w p h)
  clear h
  go_enter Try.func14, Try.ntmps14
  go_wp2_with (go_at_call 37; refine hmade.out.mono ?_; rintro e w' ⟨rfl, rfl⟩)
  go_ret
  exact ⟨rfl, rfl⟩
set_option maxHeartbeats 400000 in
theorem none_End (w : World) (p : Value) (h : NoRec w p) : Calls Try.prog 15 #[p] w fun e w' => e = .returned (.tuple #[.int .i64 0, .int .i64 1]) ∧ w = w' := by
  have hmade := Lib.hid (none_made w p h)
  clear h
  go_enter Try.func15, Try.ntmps15
  go_wp2_with (go_at_call 37; refine hmade.out.mono ?_; rintro e w' ⟨rfl, rfl⟩)
  go_ret2
  exact ⟨rfl, rfl⟩
set_option maxHeartbeats 400000 in
theorem none_Text (w : World) (p : Value) (s : ByteArray) (place : Int) (h : NoRec w p) : Calls Try.prog 16 #[p, .string s, .int .i64 place] w fun e w' => e = .returned (.bool false) ∧ w = w' := by
  have hmade := Lib.hid (none_made w p h)
  clear h
  go_enter Try.func16, Try.ntmps16
  go_wp2_with (go_at_call 37; refine hmade.out.mono ?_; rintro e w' ⟨rfl, rfl⟩)
  go_ret
  exact ⟨rfl, rfl⟩
set_option maxHeartbeats 400000 in
theorem none_Set (w : World) (p : Value) (c : Nat → Bool) (place : Int) (h : NoRec w p) : Calls Try.prog 10 #[p, clv c, .int .i64 place] w fun e w' => e = .returned (.bool false) ∧ Below w.heap.size w w' := by
  have HP := Lib.hid h
  unfold clv clc
  clear h
  go_enter Try.func10, Try.ntmps10
  go_wp2_with (go_at_call 37; refine (none_made _ p (HP.out.later ((Below.refl _ _).alloc (Nat.le_refl _) _))).mono ?_; rintro e w' ⟨rfl, rfl⟩)
  go_ret
  exact ⟨rfl, (Below.refl _ _).alloc (Nat.le_refl _) _⟩
set_option maxHeartbeats 400000 in
theorem none_Miss (w : World) (p : Value) (c : Nat → Bool) (place : Int) (h : NoRec w p) : Calls Try.prog 29 #[p, .int .i64 place, clv c] w fun e w' => e = .returned (.tuple #[]) ∧ Below w.heap.size w w' := by
  have HP := Lib.hid h
  have hB := Lib.hid ((Below.refl w.heap.size w).alloc (Nat.le_refl _) (.cells (clc c) 29 (0, 0)))
  unfold clv clc at *
  clear h
  go_enter Try.func29, Try.ntmps29
  go_wp2_with (go_at_call 37; refine (none_made _ p (HP.out.later ((Below.refl _ _).alloc (Nat.le_refl _) _))).mono ?_; rintro e w' ⟨rfl, rfl⟩)
  go_end0
  exact ⟨rfl, hB.out⟩
set_option maxHeartbeats 400000 in
theorem none_Any (w : World) (p : Value) (place : Int) (h : NoRec w p) : Calls Try.prog 23 #[p, .int .i64 place] w fun e w' => e = .returned (.bool false) ∧ Below w.heap.size w w' := by
  have hnot := fun w1 => class_Not w1 clNone
  have e0 : clv clNone = .agg #[.int .u64 0, .int .u64 0, .int .u64 0, .int .u64 0] := by unfold clv; rw [clc_none]
  rw [e0] at hnot
  have Hnot := Lib.hid hnot
  have HP := Lib.hid h
  clear hnot e0 h
  go_enter Try.func23, Try.ntmps23
  go_wp2_with (first
    | (go_at_call 45; refine (Hnot.out _).mono ?_; rintro e w' ⟨rfl, hb⟩)
    | (go_at_call 10; refine (none_Set _ _ _ _ (HP.out.later hb)).mono ?_; rintro e w'' ⟨rfl, hb2⟩))
  go_ret
  exact ⟨rfl, hb.trans (hb2.mono hb.size)⟩
set_option maxHeartbeats 400000 in
theorem none_Hoped (w : World) (p : Value) (h : NoRec w p) : Calls Try.prog 13 #[p] w fun e w' => e = .returned (clv clNone) ∧ Below w.heap.size w w' := by
  have HP := Lib.hid h
  have e0 : clv clNone = .agg #[.int .u64 0, .int .u64 0, .int .u64 0, .int .u64 0] := by unfold clv; rw [clc_none]
  rw [e0]
  have hb1 := Lib.hid (h.later ((Below.refl w.heap.size w).alloc (Nat.le_refl _) (.cells #[.int .u64 0, .int .u64 0, .int .u64 0, .int .u64 0] 29 (0, 0))))
  clear h e0 HP
  obtain ⟨⟨r0, f0⟩, ⟨r1, f1⟩, ⟨r2, f2⟩, ⟨r3, f3⟩⟩ := four_cells (heap_alloc_new w (.cells #[.int .u64 0, .int .u64 0, .int .u64 0, .int .u64 0] 29 (0, 0)))
  go_enter Try.func13, Try.ntmps13
  go_wp2_with (go_at_call 37; refine (none_made _ p hb1.out).mono ?_; rintro e w' ⟨rfl, rfl⟩)
  refine bodyPost_ret (results_cell_row rfl _ _ w.heap.size _ _ _ _ rfl (heap_alloc_new w _) Try.und_class rfl Try.size_class) rfl ⟨rfl, (Below.refl _ _).alloc (Nat.le_refl _) _⟩
/-- what is known in none's loop. -/
structure NoneAt (w0 w : World) : Prop where
  rec0 : w.heap[w0.heap.size]? = some (.cells #[.slice none 0 0, .slice none 0 0] 68 (0, 0))
  row : w.heap[w0.heap.size + 1]? = some (.cells #[.pointer none, .pointer (some ⟨w0.heap.size, 0, none⟩)] 25 (0, 0))
  bel : Below w0.heap.size w0 w
theorem NoneAt.later {w0 w w' : World} (h : NoneAt w0 w) (hb : Below w.heap.size w w') : NoneAt w0 w' := ⟨(hb.block _ (lt_of_block h.rec0)).trans h.rec0, (hb.block _ (lt_of_block h.row)).trans h.row, h.bel.trans (hb.mono h.bel.size)⟩

set_option maxRecDepth 100000 in
set_option maxHeartbeats 4000000 in
theorem law_none (w : World) : Calls Try.prog 33 #[] w fun e w' => e = .returned (.bool true) ∧ Below w.heap.size w w' := by
  have hneq := eqv_neq
  have hgrd := eqv_guard
  have hself := clEq_self
  have hcl : clOf (⟨#[]⟩ : ByteArray).data.toList = clNone := by funext b; simp [clOf, clNone]
  have HCL := Lib.hid hcl
  clear hcl
  go_enter Try.func33, Try.ntmps33
  go_wp2
  go_loopw [2] (fun i wr => ∃ k : Nat, k ≤ 2 ∧ i = .int .i64 k ∧ NoneAt w wr) (fun i _ => 2 - (intOf i).toNat)
  case atStart => exact ⟨0, by omega, rfl, heap_alloc2_old _ _ _, heap_alloc2_new _ _ _, ((Below.refl _ _).alloc (Nat.le_refl _) _).alloc (by simp) _⟩
  case round =>
    obtain ⟨k, hk, rfl, hN⟩ := hrel
    by_cases hlt : k < 2
    · obtain ⟨p, hc, hp⟩ : ∃ p, wr.cell? ⟨w.heap.size + 1, k, none⟩ = some p ∧ NoRec wr p := by
        rcases (by omega : k = 0 ∨ k = 1) with rfl | rfl
        · exact ⟨_, (block_cell' hN.row 0).1, .inl rfl⟩
        · exact ⟨_, (block_cell' hN.row 1).1, .inr ⟨_, rfl, hN.rec0⟩⟩
      have HN := Lib.hid hN
      have HP := Lib.hid hp
      have hlI : (k : Int) < 2 := by omega
      clear hN hp
      go_wp2_with fail
      refine (law_of _ _ (by decide)).mono ?_
      rintro e w1 ⟨rfl, hb1⟩
      have HB1 := Lib.hid hb1
      clear hb1
      go_wp2_with fail
      refine (none_Miss _ p _ 3 (HP.out.later HB1.out)).mono ?_
      rintro e w2 ⟨rfl, hb2⟩
      have HB2 := Lib.hid (HB1.out.trans (hb2.mono HB1.out.size))
      clear hb2
      go_wp2_with fail
      refine (none_End _ p (HP.out.later HB2.out)).mono ?_
      rintro e w3 ⟨rfl, rfl⟩
      go_wp2_with fail
      refine (none_Any _ p 0 (HP.out.later HB2.out)).mono ?_
      rintro e w4 ⟨rfl, hb4⟩
      have HB4 := Lib.hid (HB2.out.trans (hb4.mono HB2.out.size))
      clear hb4
      go_wp2_with fail
      refine (law_every _).mono ?_
      rintro e w5 ⟨rfl, hb5⟩
      have HB5 := Lib.hid (HB4.out.trans (hb5.mono HB4.out.size))
      clear hb5
      go_wp2_with fail
      refine (none_Set _ p _ 0 (HP.out.later HB5.out)).mono ?_
      rintro e w6 ⟨rfl, hb6⟩
      have HB6 := Lib.hid (HB5.out.trans (hb6.mono HB5.out.size))
      clear hb6
      go_wp2_with fail
      refine (none_Text _ p _ 0 (HP.out.later HB6.out)).mono ?_
      rintro e w7 ⟨rfl, rfl⟩
      go_wp2_with fail
      refine (none_Far _ p (HP.out.later HB6.out)).mono ?_
      rintro e w7 ⟨rfl, rfl⟩
      go_wp2_with fail
      refine (none_Begin _ p (HP.out.later HB6.out)).mono ?_
      rintro e w7 ⟨rfl, rfl⟩
      go_wp2_with fail
      refine (none_Hoped _ p (HP.out.later HB6.out)).mono ?_
      rintro e w7 ⟨rfl, hb7⟩
      have HB7 := Lib.hid (HB6.out.trans (hb7.mono HB6.out.size))
      clear hb7
      go_wp2_with fail
      refine (law_of _ _ (by decide)).mono ?_
      rintro e w8 ⟨rfl, hb8⟩
      have HB8 := Lib.hid (HB7.out.trans (hb8.mono HB7.out.size))
      clear hb8
      rw [HCL.out]
      go_wp2_with fail
      go_roundw
      case rel => exact ⟨k + 1, by omega, by go_num, HN.out.later HB8.out⟩
      case measure => simp [intOf] <;> omega
    · have hlt' : ¬ (k : Int) < 2 := by omega
      go_wp2
      go_ret
      exact ⟨rfl, hN.bel⟩
end Go.Proofs.Ytfhgmnlhmfnckaa
