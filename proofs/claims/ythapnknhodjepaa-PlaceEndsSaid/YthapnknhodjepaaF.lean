/-
  Place: the chapter's example; the theorem of the stage.
-/
import Derived.Test.YthapnknhodjepaaE
import Derived.Lib.SlBytesConst
namespace Go.Proofs.Ythapnknhodjepaa
open Go.RowKit

def tx : List UInt8 := [97, 98, 10, 99]
def sampleObj : Obj := .cells #[.int .u8 97, .int .u8 98, .int .u8 10, .int .u8 99] 5

theorem sample_bytes (w : World) : BytesAt (w.alloc (.cells #[.int .u8 97, .int .u8 98, .int .u8 10, .int .u8 99] 5 (4, 5))) (.slice (some ⟨w.heap.size, 0, none⟩) 4 4) tx := by
  refine ⟨_, w.heap.size, 0, 4, rfl, by decide, by unfold maxLen; omega, fun h => by simp at h, fun _ => rfl, fun k hk => ?_⟩
  simp only [tx, List.length_cons, List.length_nil] at hk
  rcases (show k = 0 ∨ k = 1 ∨ k = 2 ∨ k = 3 by omega) with rfl | rfl | rfl | rfl <;> simp [tx, cell_alloc_new]

theorem at_2 (x : Nat) (w : World) (h : TxtAt w x tx) : Calls Try.prog 9 #[.pointer (some ⟨x, 0, none⟩), .int .i64 2] w fun e w' => e = .returned (.tuple #[.int .i64 1, .int .i64 3, .bool true]) ∧ Below w.heap.size w w' :=
  at_text x tx 2 w h (by decide) (by decide)
theorem at_3 (x : Nat) (w : World) (h : TxtAt w x tx) : Calls Try.prog 9 #[.pointer (some ⟨x, 0, none⟩), .int .i64 3] w fun e w' => e = .returned (.tuple #[.int .i64 2, .int .i64 1, .bool true]) ∧ Below w.heap.size w w' :=
  at_text x tx 3 w h (by decide) (by decide)
theorem place_22 (x : Nat) (w : World) (h : TxtAt w x tx) : Calls Try.prog 10 #[.pointer (some ⟨x, 0, none⟩), .int .i64 2, .int .i64 2] w fun e w' => e = .returned (.tuple #[.int .i64 4, .bool true]) ∧ Below w.heap.size w w' :=
  place_text x tx 2 2 w h (by decide)
theorem lines_2 (x : Nat) (w : World) (h : TxtAt w x tx) : Calls Try.prog 11 #[.pointer (some ⟨x, 0, none⟩)] w fun e w' => e = .returned (.int .i64 2) ∧ w = w' :=
  lines_yes x _ 4 w h

set_option maxHeartbeats 1000000 in
theorem awake_any (w : World) : Calls Try.prog 7 #[] w fun e w' => e = .returned (.bool true) ∧ Below w.heap.size w w' := by
  have hs := Lib.hid (sample_bytes w)
  have kc := fun (w : World) (C : Array Value) (n c : Nat) => Lib.run_convert_bytes_const (P := Try.prog) w 22 5 C n c Try.underlying22 Try.underlying5
  go_enter Try.func7, Try.ntmps7
  go_wp2_with fail
  refine (new_any _ tx _ hs.out (by decide)).mono ?_
  rintro e w1 ⟨x, rfl, hx, hi1, hb1⟩
  have hi1 := Lib.hid hi1
  go_wp2_with fail
  refine (at_2 x _ hi1.out).mono ?_
  rintro e w2 ⟨rfl, hb2⟩
  have hi2 := Lib.hid (hi1.out.later hb2)
  go_wp2_with fail
  refine (at_3 x _ hi2.out).mono ?_
  rintro e w3 ⟨rfl, hb3⟩
  have hi3 := Lib.hid (hi2.out.later hb3)
  go_wp2_with fail
  refine (place_22 x _ hi3.out).mono ?_
  rintro e w4 ⟨rfl, hb4⟩
  have hi4 := Lib.hid (hi3.out.later hb4)
  go_wp2_with fail
  refine (lines_2 x _ hi4.out).mono ?_
  rintro e w5 ⟨rfl, rfl⟩
  go_wp2
  go_ret
  refine ⟨rfl, ?_⟩
  have s1 := hb1.size; have s2 := hb2.size; have s3 := hb3.size
  simp at s1
  exact ((((Below.refl _ _).alloc (Nat.le_refl _) _).trans (hb1.mono (by simp))).trans (hb2.mono (by omega))).trans ((hb3.mono (by omega)).trans (hb4.mono (by omega)))

end Go.Proofs.Ythapnknhodjepaa
