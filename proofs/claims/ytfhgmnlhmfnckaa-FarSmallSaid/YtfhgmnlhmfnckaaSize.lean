/-
  Chapter far: how many deeds, bytes there are; numbers brought into a range.
-/
import Derived.Test.YtfhgmnlhmfnckaaDeed
namespace Go.Proofs.Ytfhgmnlhmfnckaa
open Go.RowKit Go.Lib

def sumS (l : List Deed) : Nat := (l.map fun d => d.s.size).sum
theorem sumS_take (l : List Deed) {k : Nat} (h : k < l.length) : sumS (l.take (k + 1)) = sumS (l.take k) + l[k].s.size := by
  unfold sumS
  rw [List.take_succ_eq_append_getElem h, List.map_append, List.sum_append]
  simp
theorem sumS_mem {l : List Deed} {d : Deed} (h : d ∈ l) : d.s.size ≤ sumS l := by
  unfold sumS
  induction l with
  | nil => cases h
  | cons a r ih =>
    simp only [List.map_cons, List.sum_cons]
    rcases List.mem_cons.1 h with rfl | h
    · omega
    · have := ih h; omega

set_option maxHeartbeats 1000000 in
theorem law_size (w : World) (v u : Value) (W : List UInt8) (l : List Deed) (hv : BytesAt w v W) (hu : DeedsAt w u l) (h8 : W.length ≤ 140737488351232) (h9 : l.length ≤ 140737488351232) :
    Calls Try.prog 18 #[v, u] w fun e w' => ∃ n : Nat, e = .returned (.int .i64 n) ∧ (n ≤ 400 → n = W.length + l.length + sumS l) ∧ Below w.heap.size w w' := by
  obtain ⟨ao, b, off, cap, rfl, _, _, _, _, _⟩ := hv
  obtain ⟨ao2, cap2, rfl, _, _, hcell⟩ := hu.cells
  have Hc := Lib.hid hcell
  have hok := Lib.hid hu.2
  clear hcell hu
  obtain ⟨N, hN⟩ : ∃ N, N = W.length + l.length := ⟨_, rfl⟩
  have HN := Lib.hid hN
  have hN1 : ((W.length : Int) + l.length) = N := by omega
  have hwr : IntKind.i64.wrap ((W.length : Int) + l.length) = N := by rw [hN1]; exact IntWalk.i64_in _ (by omega)
  have hN2 : N ≤ 281474976702464 := by omega
  clear hN
  go_enter Try.func18, Try.ntmps18
  go_wp2
  go_loop [5, 6] (fun n i => ∃ k : Nat, k ≤ l.length ∧ i = .int .i64 k ∧ n = .int .i64 ((N + sumS (l.take k) : Nat) : Int) ∧ N + sumS (l.take k) ≤ 422212465065984) (fun _ i => l.length - (intOf i).toNat)
  case atStart => exact ⟨0, by omega, rfl, by simp [sumS], by simp [sumS]; omega⟩
  case round =>
    obtain ⟨k, hk, rfl, rfl, hb⟩ := hrel
    obtain ⟨S, hS⟩ : ∃ S, S = N + sumS (l.take k) := ⟨_, rfl⟩
    rw [← hS] at hb ⊢
    have HS := Lib.hid hS
    clear hS
    by_cases hlt : k < l.length
    · have hkI : (k : Int) < l.length := by omega
      by_cases hle : S ≤ 400
      · have hleI : (S : Int) ≤ 400 := by omega
        obtain ⟨b2, off2, rfl, hbl, _, _, _, _, _, _, c6⟩ := Hc.out k hlt
        have hs := (hok.out l[k] (List.getElem_mem hlt)).2.2
        have hsum := Lib.hid (sumS_take l hlt)
        obtain ⟨s, hs0⟩ : ∃ s, s = l[k].s := ⟨_, rfl⟩
        rw [← hs0] at c6 hs
        have Hs0 := Lib.hid hs0
        clear hs0
        have hrb : reachBytes = 140737488351232 := rfl
        rw [hrb] at hs
        have hadd : IntKind.i64.wrap ((S : Int) + s.size) = ((S + s.size : Nat) : Int) := by rw [IntWalk.i64_in _ (by omega)]; omega
        go_wp2
        go_round
        case rel =>
          refine ⟨k + 1, by omega, by go_num, ?_, ?_⟩
          · rw [hsum.out, ← Hs0.out, ← Nat.add_assoc, ← HS.out]
            exact congrArg _ (by omega)
          · rw [hsum.out, ← Hs0.out, ← Nat.add_assoc, ← HS.out]
            omega
        case measure => simp [intOf] <;> omega
      · have hleI : ¬ (S : Int) ≤ 400 := by omega
        go_wp2
        go_ret
        exact ⟨S, rfl, fun h => by omega, Below.refl _ _⟩
    · obtain rfl : k = l.length := by omega
      have hkI : ¬ (l.length : Int) < l.length := by omega
      go_wp2
      go_ret
      refine ⟨S, rfl, fun _ => ?_, Below.refl _ _⟩
      rw [HS.out, List.take_length, HN.out]

/-- numbers brought into 0 to 5. -/
def pick6 (x : Int) : Int := if x.tmod 6 < 0 then x.tmod 6 + 6 else x.tmod 6
theorem pick6_range (x : Int) : 0 ≤ pick6 x ∧ pick6 x < 6 := by
  have h1 := Int.tmod_lt_of_pos x (show (0 : Int) < 6 by omega)
  have h2 : -6 < x.tmod 6 := by
    have := Int.lt_tmod_of_pos x (show (0 : Int) < 6 by omega)
    exact this
  unfold pick6
  split <;> omega
theorem kit_pick (w : World) (x : Int) (hx : -9223372036854775808 ≤ x ∧ x ≤ 9223372036854775807) :
    Calls Try.prog 22 #[.int .i64 x, .int .i64 6] w fun e w' => e = .returned (.int .i64 (pick6 x)) ∧ w = w' := by
  have h1 := Int.tmod_lt_of_pos x (show (0 : Int) < 6 by omega)
  have h2 : -6 < x.tmod 6 := Int.lt_tmod_of_pos x (show (0 : Int) < 6 by omega)
  have hw : IntKind.i64.wrap (x.tmod 6) = x.tmod 6 := IntWalk.i64_in _ (by omega)
  by_cases h0 : x.tmod 6 < 0
  · have hw2 : IntKind.i64.wrap (x.tmod 6 + 6) = x.tmod 6 + 6 := IntWalk.i64_in _ (by omega)
    have hp : pick6 x = x.tmod 6 + 6 := if_pos h0
    go_enter Try.func22, Try.ntmps22
    go_wp2
    go_ret
    first | exact ⟨rfl, rfl⟩ | exact ⟨congrArg (fun z => Ending.returned (.int .i64 z)) hp.symm, rfl⟩
  · have hp : pick6 x = x.tmod 6 := if_neg h0
    go_enter Try.func22, Try.ntmps22
    go_wp2
    go_ret
    first | exact ⟨rfl, rfl⟩ | exact ⟨congrArg (fun z => Ending.returned (.int .i64 z)) hp.symm, rfl⟩
end Go.Proofs.Ytfhgmnlhmfnckaa
