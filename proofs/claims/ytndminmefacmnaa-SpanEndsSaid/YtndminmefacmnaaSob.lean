/-
  OverBytes of any row of the call's own.
-/
import Derived.Test.YtndminmefacmnaaSby
namespace Go.Proofs.Ytndminmefacmnaa
open Go.RowKit Go.Lib

set_option maxHeartbeats 2000000 in
theorem overBNil_any (w : World) : Calls Try.prog 32 #[.slice none 0 0] w fun e w' => e = .returned (.tuple #[]) ∧ Below w.heap.size w w' := by
  go_enter Try.func32, Try.ntmps32
  go_wp2
  go_loopw [3] (fun i wr => i = .int .i64 0 ∧ Below w.heap.size w wr) (fun _ _ => 0)
  case atStart => exact ⟨rfl, Below.refl _ _⟩
  case round =>
    obtain ⟨rfl, hbel⟩ := hrel
    have HB := Lib.hid hbel
    clear hbel
    go_wp2
    go_end0
    exact ⟨rfl, HB.out⟩
set_option maxHeartbeats 2000000 in
theorem overBOwn_any (n cap g z : Nat) (cur : Array Value) (w : World) (hL : w.heap[g]? = some (.cells cur 5 (0, 0))) (hs : cur.size = cap) (hn : n ≤ cap) (hc : cap ≤ 9223372036854775807) (hl : n ≤ 1000000) (hz : z = min cap (n + 12)) :
    Calls Try.prog 32 #[.slice (some ⟨g, 0, none⟩) n cap] w fun e w' => e = .returned (.tuple #[]) ∧ Keeps (fun k => k = g) w w' := by
  have HL := Lib.hid hL
  have Hs := Lib.hid hs
  have hzc : z ≤ cap := by omega
  have hz12 : z ≤ 1000012 := by omega
  have key : Calls Try.prog 32 #[.slice (some ⟨g, 0, none⟩) n cap] w (fun e w' => e = .returned (.tuple #[]) ∧ Keeps (fun k => k = g) w w') := by
    have hz1 : (z : Int) ≤ cap := by omega
    by_cases hcn : cap ≤ n + 12
    · have e1 : min (cap : Int) ((n : Int) + 12) = (z : Int) := by omega
      have e2 : (cap : Int) ≤ (n : Int) + 12 := by omega
      obtain rfl : z = cap := by omega
      clear hL hs hz
      go_enter Try.func32, Try.ntmps32
      go_wp2
      go_loopw [3] (fun i wr => ∃ (k : Nat) (cr : Array Value), k ≤ z ∧ i = .int .i64 k ∧ Keeps (fun k => k = g) w wr ∧ wr.heap[g]? = some (.cells cr 5 (0, 0)) ∧ cr.size = z) (fun i _ => z - (intOf i).toNat)
      case atStart => exact ⟨0, cur, by omega, rfl, Keeps.refl _ _, HL.out, Hs.out⟩
      case round =>
        obtain ⟨k, cr, hk, rfl, hgr, hblk, hcs⟩ := hrel
        by_cases hlt : k < z
        · have hlt' : (k : Int) < z := by omega
          have Hb := Lib.hid hblk
          have Hcs := Lib.hid hcs
          clear hblk hcs
          have hcell := (block_cell Hb.out (k := k) (by rw [Hcs.out]; omega)).1
          have hfr := (block_cell Hb.out (k := k) (by rw [Hcs.out]; omega)).2
          have Hgr5 := Lib.hid hgr
          go_wp2_with (go_at_call 43; refine (markByte_any 2 k _ (by omega) (by omega)).mono ?_; rintro e w' ⟨rfl, rfl⟩)
          go_roundw
          case rel => exact ⟨k + 1, _, by omega, by go_num, Hgr5.out.setCell (p := ⟨g, k, none⟩) rfl _, block_setCell Hb.out, by simp [Hcs.out]⟩
          case measure => simp [intOf]; omega
        · have hlt' : ¬ (k : Int) < z := by omega
          go_wp2
          go_end0
          exact ⟨rfl, hgr⟩
    · have e1 : min (cap : Int) ((n : Int) + 12) = (z : Int) := by omega
      have e2 : ¬ (cap : Int) ≤ (n : Int) + 12 := by omega
      obtain rfl : z = n + 12 := by omega
      have hz2 : (n : Int) + 12 ≤ cap := by omega
      have hz3 : (0 : Int) ≤ (n : Int) + 12 := by omega
      have hz4 : ((n : Int) + 12).toNat = n + 12 := by omega
      clear hL hs hz
      go_enter Try.func32, Try.ntmps32
      go_wp2
      go_loopw [3] (fun i wr => ∃ (k : Nat) (cr : Array Value), k ≤ (n + 12) ∧ i = .int .i64 k ∧ Keeps (fun k => k = g) w wr ∧ wr.heap[g]? = some (.cells cr 5 (0, 0)) ∧ cr.size = cap) (fun i _ => (n + 12) - (intOf i).toNat)
      case atStart => exact ⟨0, cur, by omega, rfl, Keeps.refl _ _, HL.out, Hs.out⟩
      case round =>
        obtain ⟨k, cr, hk, rfl, hgr, hblk, hcs⟩ := hrel
        by_cases hlt : k < (n + 12)
        · have hlt' : (k : Int) < (n : Int) + 12 := by omega
          have Hb := Lib.hid hblk
          have Hcs := Lib.hid hcs
          clear hblk hcs
          have hcell := (block_cell Hb.out (k := k) (by rw [Hcs.out]; omega)).1
          have hfr := (block_cell Hb.out (k := k) (by rw [Hcs.out]; omega)).2
          have Hgr5 := Lib.hid hgr
          go_wp2_with (go_at_call 43; refine (markByte_any 2 k _ (by omega) (by omega)).mono ?_; rintro e w' ⟨rfl, rfl⟩)
          go_roundw
          case rel => exact ⟨k + 1, _, by omega, by go_num, Hgr5.out.setCell (p := ⟨g, k, none⟩) rfl _, block_setCell Hb.out, by simp [Hcs.out]⟩
          case measure => simp [intOf]; omega
        · have hlt' : ¬ (k : Int) < (n : Int) + 12 := by omega
          go_wp2
          go_end0
          exact ⟨rfl, hgr⟩
  exact key
end Go.Proofs.Ytndminmefacmnaa
