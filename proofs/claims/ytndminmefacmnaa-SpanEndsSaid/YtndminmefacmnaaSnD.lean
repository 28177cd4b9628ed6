/-
  How two numbers stand; the first that is not nought.
-/
import Derived.Test.YtndminmefacmnaaSnC
namespace Go.Proofs.Ytndminmefacmnaa
open Go.RowKit Go.Lib

def sgc (s : Sg) : List Value := [.int .i64 s.fr, .int .i64 s.to]
abbrev sgv (s : Sg) : Value := .agg #[.int .i64 s.fr, .int .i64 s.to]
theorem sgc_len (s : Sg) : (sgc s).length = 2 := rfl
theorem sgc_one (s : Sg) : ∀ u ∈ sgc s, u.oneCell' = true := by
  intro u hu
  simp [sgc] at hu
  rcases hu with rfl | rfl <;> rfl
set_option maxHeartbeats 400000 in
theorem isNaN_any (a : Int) (w : World) : Calls Try.prog 65 #[.int .i64 a] w fun e w' => e = .returned (.bool false) ∧ w = w' := by
  go_enter Try.func65, Try.ntmps65
  go_wp2
  go_ret
  exact ⟨by simp, rfl⟩
set_option maxHeartbeats 1000000 in
theorem cmp_any (a b : Int) (w : World) : Calls Try.prog 51 #[.int .i64 a, .int .i64 b] w fun e w' => e = .returned (.int .i64 (cmpI a b)) ∧ w = w' := by
  go_enter Try.func51, Try.ntmps51
  go_wp2_with fail
  refine (isNaN_any a w).mono ?_
  rintro e w1 ⟨rfl, rfl⟩
  go_wp2_with fail
  refine (isNaN_any b w).mono ?_
  rintro e w1 ⟨rfl, rfl⟩
  by_cases h1 : a < b
  · have q1 : decide (a < b) = true := by simpa using h1
    have e1 : cmpI a b = -1 := by unfold cmpI; rw [if_pos h1]
    have E1 := Lib.hid e1
    clear e1
    go_wp2
    go_ret
    exact ⟨by rw [E1.out]; rfl, rfl⟩
  · have q1 : decide (a < b) = false := by simpa using h1
    by_cases h2 : b < a
    · have q2 : decide (b < a) = true := by simpa using h2
      have e1 : cmpI a b = 1 := by unfold cmpI; rw [if_neg h1, if_pos h2]
      have E1 := Lib.hid e1
      clear e1
      go_wp2
      go_ret
      exact ⟨by rw [E1.out]; rfl, rfl⟩
    · have q2 : decide (b < a) = false := by simpa using h2
      have e1 : cmpI a b = 0 := by unfold cmpI; rw [if_neg h1, if_neg h2]
      have E1 := Lib.hid e1
      clear e1
      go_wp2
      go_ret
      exact ⟨by rw [E1.out]; rfl, rfl⟩
set_option maxHeartbeats 1000000 in
theorem or_any (g : Nat) (a b : Int) (w : World) (h : w.heap[g]? = some (.cells #[.int .i64 a, .int .i64 b] 3 (0, 0))) : Calls Try.prog 50 #[.slice (some ⟨g, 0, none⟩) 2 2] w fun e w' => e = .returned (.int .i64 (orI a b)) ∧ w = w' := by
  have c0 : w.cell? ⟨g, 0, none⟩ = some (.int .i64 a) := by simp [World.cell?, h]
  have c1 : w.cell? ⟨g, 1, none⟩ = some (.int .i64 b) := by simp [World.cell?, h]
  clear h
  go_enter Try.func50, Try.ntmps50
  go_wp2
  go_loopw [8] (fun v8 wr => ∃ i : Nat, i ≤ 2 ∧ v8 = .int .i64 i ∧ (0 < i → a = 0) ∧ (1 < i → b = 0) ∧ w = wr) (fun i _ => 2 - (intOf i).toNat)
  case atStart => exact ⟨0, by omega, rfl, by omega, by omega, rfl⟩
  case round =>
    obtain ⟨i, hi, rfl, ha, hb, rfl⟩ := hrel
    have Ha := Lib.hid ha
    have Hb := Lib.hid hb
    clear ha hb
    by_cases hlt : i < 2
    · have hlt' : (i : Int) < 2 := by omega
      obtain ⟨v, hv, hc⟩ : ∃ v, v = (if i = 0 then a else b) ∧ w.cell? ⟨g, i, none⟩ = some (.int .i64 v) := by
        refine ⟨_, rfl, ?_⟩
        by_cases h0 : i = 0
        · rw [if_pos h0, h0]; exact c0
        · rw [if_neg h0, show i = 1 by omega]; exact c1
      have Hv := Lib.hid hv
      have Hlt := Lib.hid hlt
      clear hv hlt c0 c1
      by_cases hz : v = 0
      · have q1 : (v != 0) = false := by rw [hz]; rfl
        have Hz := Lib.hid hz
        clear hz
        go_wp2
        go_roundw
        case rel => exact ⟨i + 1, Hlt.out, by go_num, fun _ => by
          by_cases h0 : i = 0
          · have := Hv.out; rw [if_pos h0, Hz.out] at this; exact this.symm
          · exact Ha.out (by omega), fun h => by
          have := Hv.out; rw [if_neg (by omega), Hz.out] at this; exact this.symm, by simp⟩
        case measure => have := Hlt.out; simp [intOf]; omega
      · have q1 : (v != 0) = true := by simpa using hz
        have hres : orI a b = v := by
          unfold orI
          have h2 := Hv.out
          by_cases h0 : i = 0
          · rw [if_pos h0] at h2
            rw [← h2]
            simp [hz]
          · rw [if_neg h0] at h2
            rw [Ha.out (by omega), ← h2]
            simp
        have Hres := Lib.hid hres
        clear hz hres
        go_wp2
        go_ret
        exact ⟨by rw [Hres.out]; rfl, rfl⟩
    · have hlt' : ¬ (i : Int) < 2 := by omega
      have Hres := Lib.hid (show orI a b = 0 by unfold orI; rw [Ha.out (by omega), Hb.out (by omega)]; simp)
      clear hlt hi
      go_wp2
      go_ret
      exact ⟨by rw [Hres.out]; rfl, rfl⟩
end Go.Proofs.Ytndminmefacmnaa
