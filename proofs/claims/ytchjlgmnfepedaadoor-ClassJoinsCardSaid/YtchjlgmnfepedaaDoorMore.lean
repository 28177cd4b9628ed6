/-
  Package class: And, Len, Range; slices of two, three classes.
-/
import Derived.Test.YtchjlgmnfepedaaDoorIter
import Derived.Test.YtchjlgmnfepedaaDoorEqC
namespace Go.Proofs.YtchjlgmnfepedaaDoor
open Go.RowKit Go.Lib

def clAnd (s t : Nat → Bool) : Nat → Bool := fun b => s b && t b
/-- after k words are joined. -/
def clAndTo (s o : Nat → Bool) (k : Nat) : Nat → Bool := fun b => if b < 64 * k then s b && o b else s b
theorem clAndTo_zero (s o : Nat → Bool) : clAndTo s o 0 = s := by funext b; simp [clAndTo]
theorem clAndTo_four (s o : Nat → Bool) : clc (clAndTo s o 4) = clc (clAnd s o) := clc_congr fun b hb => by unfold clAndTo clAnd; rw [if_pos (by omega)]
theorem and_cells (s o : Nat → Bool) {k : Nat} (hk : k < 4) : (clc (clAndTo s o k)).setIfInBounds k (.int .u64 (bits .and .u64 (word s k) (word o k))) = clc (clAndTo s o (k + 1)) := by
  rw [bits_and_u64_nat _ _ (word_lt _ _) (word_lt _ _)]
  refine clc_set hk (Nat.and_lt_two_pow (n := 64) _ (word_lt _ _)) (fun i hi => ?_) (fun j hj hne => ?_)
  · rw [Nat.testBit_and, word_bit _ _ _ hi, word_bit _ _ _ hi]
    unfold clAndTo
    rw [if_pos (by omega)]
  · unfold clAndTo
    by_cases h : j < 64 * k
    · rw [if_pos h, if_pos (by omega)]
    · rw [if_neg h, if_neg (by omega)]

set_option maxHeartbeats 400000 in
theorem set_and (w : World) (x : Nat) (t : TypeId) (s o : Nat → Bool) (h : w.heap[x]? = some (.cells (clc s) t (0, 0))) :
    Calls Tryd.prog 27 #[.pointer (some ⟨x, 0, none⟩), clv o] w fun e w' => e = .returned (.tuple #[]) ∧ w'.heap[x]? = some (.cells (clc (clAnd s o)) t (0, 0)) ∧ Keeps (fun k => k = x) w w' := by
  have hxl := lt_of_block h
  have H := Lib.hid h
  clear h
  unfold clv
  go_enter Tryd.func27, Tryd.ntmps27
  go_wp2
  go_loopw [5] (fun i wr => ∃ k : Nat, k ≤ 4 ∧ i = .int .i64 k ∧ wr.heap[x]? = some (.cells (clc (clAndTo s o k)) t (0, 0)) ∧ wr.heap[w.heap.size]? = some (.cells (clc o) 46 (0, 0)) ∧ Keeps (fun k => k = x) w wr) (fun i _ => 4 - (intOf i).toNat)
  case atStart => exact ⟨0, by omega, rfl, by rw [clAndTo_zero, Below.heap_alloc _ _ _ hxl]; exact H.out, heap_alloc_new _ _, (Keeps.refl _ _).alloc _⟩
  case round =>
    obtain ⟨k, hk4, rfl, hh, ho, hkeep⟩ := hrel
    by_cases hlt : k < 4
    · obtain ⟨hc, hf⟩ := block_cell' hh k
      rw [clc_get _ hlt] at hc
      have hwk : word (clAndTo s o k) k = word s k := word_congr fun i hi => by unfold clAndTo; rw [if_neg (by omega)]
      rw [hwk] at hc
      have hco := (block_cell' ho k).1
      rw [clc_get _ hlt] at hco
      have HH := Lib.hid hh
      have HO := Lib.hid ho
      have HK := Lib.hid hkeep
      clear hh hkeep hwk ho
      go_wp2
      go_still_tail 11, (by kernel_rfl)
      go_wp2
      go_roundw
      case rel =>
        refine ⟨k + 1, by omega, by go_num, ?_, ?_, (HK.out.setCell (p := ⟨x, _, none⟩) rfl _).drew⟩
        · show (World.setCell _ _ _).heap[x]? = _
          rw [block_setCell' HH.out]
          exact congrArg (fun c => some (Obj.cells c t)) (and_cells s o hlt)
        · show (World.setCell _ _ _).heap[_]? = _
          rw [Below.heap_setCell _ _ _ _ (by simp; omega)]
          exact HO.out
      case measure => simp [intOf]; omega
    · go_wp2
      go_end0
      obtain rfl : k = 4 := by omega
      rw [clAndTo_four] at hh
      exact ⟨rfl, hh, hkeep⟩


/-- all of some classes. -/
def clFoldA (s : Nat → Bool) (l : List (Nat → Bool)) : Nat → Bool := l.foldl clAnd s
theorem clFoldA_take (s : Nat → Bool) (l : List (Nat → Bool)) {k : Nat} (h : k < l.length) : clFoldA s (l.take (k + 1)) = clAnd (clFoldA s (l.take k)) l[k] := by
  unfold clFoldA
  rw [List.take_succ_eq_append_getElem h, List.foldl_append]
  rfl
set_option maxHeartbeats 400000 in
theorem class_fold_and (w : World) (s : Nat → Bool) (l : List (Nat → Bool)) (v : Value) (hv : ClsAt w v l) :
    Calls Tryd.prog 25 #[clv s, .func (.func 27) #[] #[], v] w fun e w' => e = .returned (clv (clFoldA s l)) ∧ Below w.heap.size w w' := by
  have HV := Lib.hid hv
  obtain ⟨ao, b, off, cap, rfl, hl, hm, hnil, hao, hc⟩ := hv
  clear hnil hao hc
  unfold clv
  go_enter Tryd.func25, Tryd.ntmps25
  go_wp2
  have hll : l.length ≤ 9223372036854775807 := by unfold maxLen at hm; omega
  go_loopw [11] (fun i wr => ∃ k : Nat, k ≤ l.length ∧ i = .int .i64 k ∧ wr.heap[w.heap.size]? = some (.cells (clc (clFoldA s (l.take k))) 46 (0, 0)) ∧ wr.heap[w.heap.size + 1]? = some (.cells #[.int .u64 0, .int .u64 0, .int .u64 0, .int .u64 0] 24 (0, 0)) ∧ Below w.heap.size w wr) (fun i _ => l.length - (intOf i).toNat)
  case atStart => exact ⟨0, by omega, rfl, heap_alloc2_old _ _ _, heap_alloc2_new _ _ _, ((Below.refl _ _).alloc (Nat.le_refl _) _).alloc (by simp) _⟩
  case round =>
    obtain ⟨k, hk, rfl, hh, hr, hb⟩ := hrel
    by_cases hlt : k < l.length
    · obtain ⟨ao', b', off', cap', he, _, _, _, hao, hc⟩ := HV.out
      simp only [Value.slice.injEq, true_and] at he
      obtain ⟨rfl, rfl⟩ := he
      obtain ⟨rfl, hbl⟩ := hao (by omega)
      have hcc := fun j hj => (hb.cell (p := ⟨b', off' + k * 4 + j, none⟩) hbl).trans (hc k hlt j hj)
      have e0 := hcc 0 (by omega)
      rw [Nat.add_zero] at e0
      have e1 := hcc 1 (by omega)
      have e2 := hcc 2 (by omega)
      have e3 := hcc 3 (by omega)
      have HH := Lib.hid hh
      have HR := Lib.hid hr
      have HB := Lib.hid hb
      have HL := Lib.hid hlt
      clear hh hr hb hcc hc hao
      have hltI : (k : Int) < l.length := by omega
      have hws : w.heap.size < wr.heap.size := lt_of_block HH.out
      have hws1 : w.heap.size + 1 < wr.heap.size := lt_of_block HR.out
      go_wp2_with (go_at_call 27; refine (set_and _ _ 46 (clFoldA s (l.take k)) l[k] (by rw [Below.heap_alloc _ _ _ hws]; exact HH.out)).mono ?_; rintro e w' ⟨rfl, h1, h2⟩)
      go_roundw
      case rel =>
        refine ⟨k + 1, by omega, by go_num, ?_, ?_, ?_⟩
        · rw [clFoldA_take _ _ hlt]; exact h1
        · rw [h2.block _ (by simp; omega) (by omega), Below.heap_alloc _ _ _ hws1]; exact HR.out
        · exact (HB.out.alloc (by omega) _).trans (h2.below (by simp; omega) (fun k hk => by omega))
      case measure => simp [intOf]; omega
    · obtain rfl : k = l.length := by omega
      rw [List.take_length] at hh
      obtain ⟨c0, c1, c2, c3⟩ := cls_cells hh
      obtain ⟨⟨r0, f0⟩, ⟨r1, f1⟩, ⟨r2, f2⟩, ⟨r3, f3⟩⟩ := four_cells hr
      have HR := Lib.hid hr
      clear hr hh
      have hlt' : ¬ (l.length : Int) < l.length := by omega
      go_wp2
      have hst := store4 (u0 := .int .u64 (word (clFoldA s l) 0)) (u1 := .int .u64 (word (clFoldA s l) 1)) (u2 := .int .u64 (word (clFoldA s l) 2)) (u3 := .int .u64 (word (clFoldA s l) 3)) HR.out
      refine bodyPost_ret (results_cell_row rfl _ _ (w.heap.size + 1) _ _ _ _ rfl hst Tryd.und_class rfl Tryd.size_class) rfl ⟨rfl, ?_⟩
      exact (((((Keeps.ofBelow hb).setCell (by simp) _).setCell (by simp) _).setCell (by simp) _).setCell (by simp) _).below (Nat.le_refl _) (fun k hk => hk)


set_option maxHeartbeats 400000 in
theorem class_And (w : World) (l : List (Nat → Bool)) (v : Value) (hv : ClsAt w v l) :
    Calls Tryd.prog 11 #[v] w fun e w' => e = .returned (clv (clFoldA (clNot clNone) l)) ∧ Below w.heap.size w w' := by
  have HV := Lib.hid hv
  clear hv
  go_enter Tryd.func11, Tryd.ntmps11
  have hno := fun w1 => class_Not w1 clNone
  unfold clv at hno
  rw [clc_none] at hno
  have Hno := Lib.hid hno
  clear hno
  go_wp2_with fail
  refine (Hno.out _).mono ?_
  rintro e w1 ⟨rfl, hb⟩
  have hr := (hb.block _ (by simp)).trans (heap_alloc_new w (.cells #[.int .u64 0, .int .u64 0, .int .u64 0, .int .u64 0] 24 (0, 0)))
  have hb1 : Below w.heap.size w w1 := ((Below.refl _ _).alloc (Nat.le_refl _) _).trans (hb.mono (by simp))
  have HB := Lib.hid hb1
  have HR := Lib.hid hr
  clear hb hb1 hr
  go_wp2_with fail
  refine (class_fold_and w1 (clNot clNone) l v (HV.out.later HB.out)).mono ?_
  rintro e w2 ⟨rfl, hb⟩
  have hr := (hb.block _ (lt_of_block HR.out)).trans HR.out
  have HB2 := Lib.hid (HB.out.trans (hb.mono HB.out.size))
  have HR2 := Lib.hid hr
  obtain ⟨⟨r0, f0⟩, ⟨r1, f1⟩, ⟨r2, f2⟩, ⟨r3, f3⟩⟩ := four_cells hr
  clear hb hr
  simp only [clv, clc]
  go_wp2
  have hst := store4 (u0 := .int .u64 (word (clFoldA (clNot clNone) l) 0)) (u1 := .int .u64 (word (clFoldA (clNot clNone) l) 1)) (u2 := .int .u64 (word (clFoldA (clNot clNone) l) 2)) (u3 := .int .u64 (word (clFoldA (clNot clNone) l) 3)) HR2.out
  refine bodyPost_ret (results_cell_row rfl _ _ w.heap.size _ _ _ _ rfl hst Tryd.und_class rfl Tryd.size_class) rfl ⟨rfl, ?_⟩
  exact (((((Keeps.ofBelow HB2.out).setCell (by simp) _).setCell (by simp) _).setCell (by simp) _).setCell (by simp) _).below (Nat.le_refl _) (fun k hk => hk)

theorem cnt_add (p : Nat → Bool) (n : Nat) : ∀ m, cnt p (n + m) = cnt p n + cnt (fun i => p (n + i)) m
  | 0 => by simp [cnt]
  | m + 1 => by
    have ih := cnt_add p n m
    rw [← Nat.add_assoc]
    simp only [cnt, ih]
    omega
set_option maxHeartbeats 400000 in
theorem class_Len (w : World) (s : Nat → Bool) :
    Calls Tryd.prog 15 #[clv s] w fun e w' => e = .returned (.int .i64 (cnt s 256)) ∧ Below w.heap.size w w' := by
  have ho := fun (k : Nat) (w1 : World) => ones_count (fun i => s (64 * k + i)) (word s k) (word_lt s k) (fun i hi => word_bit s k i hi) w1
  have HO := Lib.hid ho
  clear ho
  unfold clv clc
  go_enter Tryd.func15, Tryd.ntmps15
  go_wp2
  go_loopw [2, 6] (fun n i wr => ∃ k : Nat, k ≤ 4 ∧ i = .int .i64 k ∧ n = .int .i64 (cnt s (64 * k)) ∧ Below w.heap.size w wr) (fun _ i _ => 4 - (intOf i).toNat)
  case atStart => exact ⟨0, by omega, rfl, rfl, (Below.refl _ _).alloc (Nat.le_refl _) _⟩
  case round =>
    obtain ⟨k, hk, rfl, rfl, hb⟩ := hrel
    have hcl := cnt_le s (64 * k)
    by_cases hlt : k < 4
    · have hidx : ∀ w : World, (Instr.index 24 (.agg #[.int .u64 (word s 0), .int .u64 (word s 1), .int .u64 (word s 2), .int .u64 (word s 3)]) (.int .i64 k)).run Tryd.prog w = .ok (.int .u64 (word s k)) w := by
        rcases (by omega : k = 0 ∨ k = 1 ∨ k = 2 ∨ k = 3) with rfl | rfl | rfl | rfl <;> exact fun _ => by kernel_rfl
      have hadd := cnt_add s (64 * k) 64
      have hle := cnt_le (fun i => s (64 * k + i)) 64
      have hltI : (k : Int) < 4 := by omega
      have HB := Lib.hid hb
      clear hb
      go_wp2_with fail
      refine (HO.out k wr).mono ?_
      rintro e w2 ⟨rfl, rfl⟩
      go_wp2
      go_roundw
      case rel => exact ⟨k + 1, by omega, by go_num, by rw [Nat.mul_succ, hadd]; go_num, HB.out⟩
      case measure => simp [intOf]; omega
    · obtain rfl : k = 4 := by omega
      go_wp2
      go_ret
      exact ⟨rfl, hb⟩

/-- the bytes from one to another one. -/
def clRange (a b : Nat) : Nat → Bool := fun i => decide (a ≤ i) && decide (i ≤ b)
/-- those below k of it. -/
def clRangeTo (a k : Nat) : Nat → Bool := fun i => decide (a ≤ i) && decide (i < k)
theorem clRangeTo_put (a k : Nat) (h : a ≤ k) : clRangeTo a (k + 1) = clPut (clRangeTo a k) k := by
  funext i
  unfold clRangeTo clPut
  rw [Bool.eq_iff_iff]
  simp only [Bool.and_eq_true, decide_eq_true_eq, Bool.or_eq_true, beq_iff_eq]
  omega
set_option maxHeartbeats 1000000 in
theorem class_Range (w : World) (a b : UInt8) :
    Calls Tryd.prog 16 #[.int .u8 a.toNat, .int .u8 b.toNat] w fun e w' => e = .returned (clv (clRange a.toNat b.toNat)) ∧ Below w.heap.size w w' := by
  have ha := a.toNat_lt
  have hb' := b.toNat_lt
  go_enter Tryd.func16, Tryd.ntmps16
  go_wp2
  go_loopw [6] (fun i wr => ∃ k : Nat, a.toNat ≤ k ∧ (k ≤ b.toNat + 1 ∨ k = a.toNat) ∧ i = .int .i64 k ∧ wr.heap[w.heap.size + 1]? = some (.cells (clc (clRangeTo a.toNat k)) 46 (0, 0)) ∧ wr.heap[w.heap.size]? = some (.cells #[.int .u64 0, .int .u64 0, .int .u64 0, .int .u64 0] 24 (0, 0)) ∧ Below w.heap.size w wr) (fun i _ => 257 - (intOf i).toNat)
  case atStart =>
    refine ⟨a.toNat, by omega, by omega, by go_num, ?_, heap_alloc2_old _ _ _, ((Below.refl _ _).alloc (Nat.le_refl _) _).alloc (by simp) _⟩
    rw [show clRangeTo a.toNat a.toNat = clNone from by funext i; unfold clRangeTo clNone; rw [Bool.eq_iff_iff]; simp, clc_none]
    exact heap_alloc2_new _ _ _
  case round =>
    obtain ⟨k, hak, hk, rfl, hh, hr, hb⟩ := hrel
    by_cases hlt : k ≤ b.toNat
    · have hltI : (k : Int) ≤ b.toNat := by omega
      obtain ⟨u, hu⟩ : ∃ u : UInt8, u.toNat = k := ⟨UInt8.ofNat k, by rw [UInt8.toNat_ofNat']; omega⟩
      have HH := Lib.hid hh
      have HR := Lib.hid hr
      have HB := Lib.hid hb
      clear hh hr hb
      have hput := set_put wr _ 46 (clRangeTo a.toNat k) u HH.out
      rw [hu] at hput
      have hws : w.heap.size + 1 < wr.heap.size := lt_of_block HH.out
      have HP := Lib.hid hput
      clear hput hu
      go_wp2_with fail
      refine HP.out.mono ?_
      rintro e w' ⟨rfl, h1, h2⟩
      go_wp2
      go_roundw
      case rel =>
        refine ⟨k + 1, by omega, by omega, by go_num, ?_, ?_, HB.out.trans (h2.below (by omega) (fun k hk => by omega))⟩
        · rw [clRangeTo_put _ _ hak]; exact h1
        · rw [h2.block _ (by omega) (by omega)]; exact HR.out
      case measure => simp [intOf]; omega
    · have hltI : ¬ (k : Int) ≤ b.toNat := by omega
      have he : clc (clRangeTo a.toNat k) = clc (clRange a.toNat b.toNat) := clc_congr fun i hi => by
        unfold clRangeTo clRange
        rw [Bool.eq_iff_iff]
        simp only [Bool.and_eq_true, decide_eq_true_eq]
        omega
      rw [he] at hh
      obtain ⟨c0, c1, c2, c3⟩ := cls_cells hh
      obtain ⟨⟨r0, f0⟩, ⟨r1, f1⟩, ⟨r2, f2⟩, ⟨r3, f3⟩⟩ := four_cells hr
      have HR := Lib.hid hr
      clear hr hh he
      go_wp2
      have hst := store4 (u0 := .int .u64 (word (clRange a.toNat b.toNat) 0)) (u1 := .int .u64 (word (clRange a.toNat b.toNat) 1)) (u2 := .int .u64 (word (clRange a.toNat b.toNat) 2)) (u3 := .int .u64 (word (clRange a.toNat b.toNat) 3)) HR.out
      refine bodyPost_ret (results_cell_row rfl _ _ w.heap.size _ _ _ _ rfl hst Tryd.und_class rfl Tryd.size_class) rfl ⟨rfl, ?_⟩
      exact (((((Keeps.ofBelow hb).setCell (by simp) _).setCell (by simp) _).setCell (by simp) _).setCell (by simp) _).below (Nat.le_refl _) (fun k hk => hk)
end Go.Proofs.YtchjlgmnfepedaaDoor
