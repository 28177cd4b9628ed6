import Derived.Test.YtadkjjpopmiceaaGreatRfkm
namespace Go.Proofs.YtadkjjpopmiceaaGreat
open Go.RowKit Go.Lib

set_option maxHeartbeats 2000000 in
theorem overNil_any (w : World) : Calls Tryz.prog 26 #[.slice none 0 0] w fun e w' => e = .returned (.tuple #[]) ∧ Below w.heap.size w w' := by
  go_enter Tryz.func26, Tryz.ntmps26
  go_wp2
  go_loopw [3] (fun i wr => i = .int .i64 0 ∧ Below w.heap.size w wr) (fun _ _ => 0)
  case atStart => exact ⟨rfl, Below.refl _ _⟩
  case round =>
    obtain ⟨rfl, hbel⟩ := hrel
    have HB := Lib.hid hbel
    clear hbel
    go_wp2
    go_end0
    exact ⟨rfl, HB.out⟩
set_option maxHeartbeats 2000000 in
theorem overOwn_any (n cap g z : Nat) (cur : Array Value) (w : World) (hL : w.heap[g]? = some (.cells cur 45 (0, 0))) (hs : cur.size = cap * 5) (hn : n ≤ cap) (hc : cap ≤ 9223372036854775807) (hl : n ≤ 1000000) (hz : z = min cap (n + 12)) :
    Calls Tryz.prog 26 #[.slice (some ⟨g, 0, none⟩) n cap] w fun e w' => e = .returned (.tuple #[]) ∧ Keeps (fun k => k = g) w w' := by
  have HL := Lib.hid hL
  have Hs := Lib.hid hs
  have hzc : z ≤ cap := by omega
  have hz12 : z ≤ 1000012 := by omega
  have key : Calls Tryz.prog 26 #[.slice (some ⟨g, 0, none⟩) n cap] w (fun e w' => e = .returned (.tuple #[]) ∧ Keeps (fun k => k = g) w w') := by
    have hz1 : (z : Int) ≤ cap := by omega
    by_cases hcn : cap ≤ n + 12
    · have e1 : min (cap : Int) ((n : Int) + 12) = (z : Int) := by omega
      have e2 : (cap : Int) ≤ (n : Int) + 12 := by omega
      obtain rfl : z = cap := by omega
      clear hL hs hz
      go_enter Tryz.func26, Tryz.ntmps26
      go_wp2
      go_loopw [3] (fun i wr => ∃ (k : Nat) (cr : Array Value), k ≤ z ∧ i = .int .i64 k ∧ Keeps (fun k => k = g) w wr ∧ wr.heap[g]? = some (.cells cr 45 (0, 0)) ∧ cr.size = z * 5) (fun i _ => z - (intOf i).toNat)
      case atStart => exact ⟨0, cur, by omega, rfl, Keeps.refl _ _, HL.out, Hs.out⟩
      case round =>
        obtain ⟨k, cr, hk, rfl, hgr, hblk, hcs⟩ := hrel
        by_cases hlt : k < z
        · have hlt' : (k : Int) < z := by omega
          have Hb := Lib.hid hblk
          have Hcs := Lib.hid hcs
          clear hblk hcs
          go_wp2_with fail
          refine (markTwig_any 2 k wr (by omega) (by omega)).mono ?_
          rintro e w5 ⟨rfl, hb5⟩
          have hblk := (hb5.block _ (lt_of_block Hb.out)).trans Hb.out
          have hc : ∀ c, c < 5 → ∃ u, w5.cell? ⟨g, k * 5 + c, none⟩ = some u := fun c hc => by
            rw [(block_cell' hblk _).1]
            exact ⟨_, Array.getElem?_eq_getElem (by rw [Hcs.out]; omega)⟩
          have hf : ∀ c, w5.frozen? ⟨g, k * 5 + c, none⟩ = false := fun c => (block_cell' hblk _).2
          obtain ⟨u0, c0⟩ := hc 0 (by omega)
          obtain ⟨u1, c1⟩ := hc 1 (by omega)
          obtain ⟨u2, c2⟩ := hc 2 (by omega)
          obtain ⟨u3, c3⟩ := hc 3 (by omega)
          obtain ⟨u4, c4⟩ := hc 4 (by omega)
          have f0 := hf 0
          have f1 := hf 1
          have f2 := hf 2
          have f3 := hf 3
          have f4 := hf 4
          simp only [Nat.add_zero] at c0 f0
          have hgr5 := hgr.trans (Keeps.ofNew hb5 _)
          have Hblk := Lib.hid hblk
          have Hgr5 := Lib.hid hgr5
          clear hc hf hblk hgr5 hb5
          go_wp2
          go_roundw
          case rel => exact ⟨k + 1, _, by omega, by go_num, (((((Hgr5.out.setCell (p := ⟨g, k * 5, none⟩) rfl _).setCell (p := ⟨g, k * 5 + 1, none⟩) rfl _).setCell (p := ⟨g, k * 5 + 2, none⟩) rfl _).setCell (p := ⟨g, k * 5 + 3, none⟩) rfl _).setCell (p := ⟨g, k * 5 + 4, none⟩) rfl _), block_setCell' (block_setCell' (block_setCell' (block_setCell' (block_setCell' Hblk.out)))), by simp [Hcs.out]⟩
          case measure => simp [intOf]; omega
        · have hlt' : ¬ (k : Int) < z := by omega
          go_wp2
          go_end0
          exact ⟨rfl, hgr⟩
    · have e1 : min (cap : Int) ((n : Int) + 12) = (z : Int) := by omega
      have e2 : ¬ (cap : Int) ≤ (n : Int) + 12 := by omega
      obtain rfl : z = n + 12 := by omega
      have hz2 : (n : Int) + 12 ≤ cap := by omega
      have hz3 : (0 : Int) ≤ (n : Int) + 12 := by omega
      have hz4 : ((n : Int) + 12).toNat = n + 12 := by omega
      clear hL hs hz
      go_enter Tryz.func26, Tryz.ntmps26
      go_wp2
      go_loopw [3] (fun i wr => ∃ (k : Nat) (cr : Array Value), k ≤ (n + 12) ∧ i = .int .i64 k ∧ Keeps (fun k => k = g) w wr ∧ wr.heap[g]? = some (.cells cr 45 (0, 0)) ∧ cr.size = cap * 5) (fun i _ => (n + 12) - (intOf i).toNat)
      case atStart => exact ⟨0, cur, by omega, rfl, Keeps.refl _ _, HL.out, Hs.out⟩
      case round =>
        obtain ⟨k, cr, hk, rfl, hgr, hblk, hcs⟩ := hrel
        by_cases hlt : k < (n + 12)
        · have hlt' : (k : Int) < (n : Int) + 12 := by omega
          have Hb := Lib.hid hblk
          have Hcs := Lib.hid hcs
          clear hblk hcs
          go_wp2_with fail
          refine (markTwig_any 2 k wr (by omega) (by omega)).mono ?_
          rintro e w5 ⟨rfl, hb5⟩
          have hblk := (hb5.block _ (lt_of_block Hb.out)).trans Hb.out
          have hc : ∀ c, c < 5 → ∃ u, w5.cell? ⟨g, k * 5 + c, none⟩ = some u := fun c hc => by
            rw [(block_cell' hblk _).1]
            exact ⟨_, Array.getElem?_eq_getElem (by rw [Hcs.out]; omega)⟩
          have hf : ∀ c, w5.frozen? ⟨g, k * 5 + c, none⟩ = false := fun c => (block_cell' hblk _).2
          obtain ⟨u0, c0⟩ := hc 0 (by omega)
          obtain ⟨u1, c1⟩ := hc 1 (by omega)
          obtain ⟨u2, c2⟩ := hc 2 (by omega)
          obtain ⟨u3, c3⟩ := hc 3 (by omega)
          obtain ⟨u4, c4⟩ := hc 4 (by omega)
          have f0 := hf 0
          have f1 := hf 1
          have f2 := hf 2
          have f3 := hf 3
          have f4 := hf 4
          simp only [Nat.add_zero] at c0 f0
          have hgr5 := hgr.trans (Keeps.ofNew hb5 _)
          have Hblk := Lib.hid hblk
          have Hgr5 := Lib.hid hgr5
          clear hc hf hblk hgr5 hb5
          go_wp2
          go_roundw
          case rel => exact ⟨k + 1, _, by omega, by go_num, (((((Hgr5.out.setCell (p := ⟨g, k * 5, none⟩) rfl _).setCell (p := ⟨g, k * 5 + 1, none⟩) rfl _).setCell (p := ⟨g, k * 5 + 2, none⟩) rfl _).setCell (p := ⟨g, k * 5 + 3, none⟩) rfl _).setCell (p := ⟨g, k * 5 + 4, none⟩) rfl _), block_setCell' (block_setCell' (block_setCell' (block_setCell' (block_setCell' Hblk.out)))), by simp [Hcs.out]⟩
          case measure => simp [intOf]; omega
        · have hlt' : ¬ (k : Int) < (n : Int) + 12 := by omega
          go_wp2
          go_end0
          exact ⟨rfl, hgr⟩
  exact key
end Go.Proofs.YtadkjjpopmiceaaGreat
