/-
  Place: the search.
-/
import Derived.Test.YthapnknhodjepaaRows
import Derived.WalkKit
import Derived.WalkSpells
import Derived.WalkLawsBesides
import Derived.Lib.Hide
import Derived.Deep.QuietTactic
import Derived.BigQuiet
namespace Go.Proofs.Ythapnknhodjepaa
open Go.RowKit

set_option maxHeartbeats 400000 in
theorem of1 (k : Nat) (b1 b2 b : Nat) (bb : Addr) (n cap : Nat) (v p : Int) (w : World) (hm : n ≤ maxLen) (hk : k < n)
    (h1 : w.cell? ⟨b1, 0, none⟩ = some (.pointer (some ⟨b, 0, none⟩))) (h2 : w.cell? ⟨b2, 0, none⟩ = some (.int .i64 p))
    (h0 : w.cell? ⟨b, 0, none⟩ = some (.slice (some ⟨bb.block, 0, none⟩) n cap)) (hv : w.cell? ⟨bb.block, k, none⟩ = some (.int .i64 v)) :
    Calls Try.prog 27 #[.int .i64 k, .pointer (some ⟨b1, 0, none⟩), .pointer (some ⟨b2, 0, none⟩)] w fun e w' => e = .returned (.bool (decide (v ≤ p))) ∧ ∃ m, w' = w.drewN m := by
  unfold maxLen at hm
  go_enter Try.func27, Try.ntmps27
  go_wp2
  go_quiet (fail)
  go_wp2
  go_ret
  exact ⟨rfl, _, rfl⟩

set_option maxHeartbeats 400000 in
theorem search (c : Value) (n : Nat) (p : Nat → Bool) (w : World) (hm : n ≤ 1000001)
    (hc : Hid (∀ k : Nat, k < n → ∀ w1, Below w.heap.size w w1 → Calls Try.prog 30 #[.int .i64 k, c] w1 fun e w2 => e = .returned (.bool (p k)) ∧ Below w1.heap.size w1 w2)) :
    Calls Try.prog 29 #[.int .i64 n, .func (.func 30) #[] #[c]] w fun e w' => ∃ r : Nat, e = .returned (.int .i64 r) ∧ r ≤ n ∧ (r < n → p r = true) ∧ (0 < r → p (r-1) = false) ∧ Below w.heap.size w w' := by
  go_enter Try.func29, Try.ntmps29
  go_wp2
  go_loopw [5, 6] (fun i j w' => ∃ a b : Nat, i = .int .i64 a ∧ j = .int .i64 b ∧ a ≤ b ∧ b ≤ n ∧ (b < n → p b = true) ∧ (0 < a → p (a-1) = false) ∧ Below w.heap.size w w') (fun i j _ => (intOf j - intOf i).toNat)
  case atStart => exact ⟨0, n, rfl, rfl, by omega, by omega, by omega, by omega, Below.refl _ _⟩
  case round =>
    obtain ⟨a, b, rfl, rfl, hab, hbn, hpb, hpa, hbel⟩ := hrel
    have Hb := Lib.hid hpb
    have Ha := Lib.hid hpa
    clear hpb hpa
    by_cases hlt : a < b
    · obtain ⟨h, hh1, hh2, hh3⟩ : ∃ h : Nat, h = (a+b)/2 ∧ a ≤ h ∧ h < b := ⟨_, rfl, by omega, by omega⟩
      have hmid : ((a : Int) + b) / 2 = h := by omega
      clear hh1
      cases hp : p h
      · have Hp := Lib.hid hp
        clear hp
        go_wp2_with (go_at_call 30; refine (hc.out h (by omega) _ hbel).mono ?_; rw [Hp.out]; rintro e w' ⟨rfl, hb2⟩)
        go_roundw
        case rel => exact ⟨h+1, b, by go_num, rfl, by omega, by omega, Hb.out, fun _ => by simpa using Hp.out, hbel.trans (hb2.mono hbel.size)⟩
        case measure => simp [intOf]; omega
      · have Hp := Lib.hid hp
        clear hp
        go_wp2_with (go_at_call 30; refine (hc.out h (by omega) _ hbel).mono ?_; rw [Hp.out]; rintro e w' ⟨rfl, hb2⟩)
        go_roundw
        case rel => exact ⟨a, h, rfl, rfl, by omega, by omega, fun _ => Hp.out, Ha.out, hbel.trans (hb2.mono hbel.size)⟩
        case measure => simp [intOf]; omega
    · go_wp2
      go_ret
      obtain rfl : a = b := by omega
      exact ⟨a, rfl, by omega, Hb.out, Ha.out, hbel⟩

set_option maxHeartbeats 400000 in
theorem last1 (b3 g : Nat) (c1 c2 : Value) (k : Nat) (p : Bool) (w : World) (h3 : w.cell? ⟨b3, 0, none⟩ = some (.func (.func 27) #[] #[c1, c2]))
   (hc : Calls Try.prog 27 #[.int .i64 k, c1, c2] w fun e w2 => e = .returned (.bool p) ∧ Below w.heap.size w w2) :
   Calls Try.prog 30 #[.int .i64 k, .pointer (some ⟨b3, 0, none⟩)] w fun e w2 => e = .returned (.bool (!p)) ∧ Below w.heap.size w w2 := by
  have Hc := Lib.hid hc
  clear hc
  go_enter Try.func30, Try.ntmps30
  go_wp2_with (go_at_call 27; refine Hc.out.mono ?_; rintro e w' ⟨rfl, hb2⟩)
  go_ret
  exact ⟨rfl, hb2⟩

end Go.Proofs.Ythapnknhodjepaa
