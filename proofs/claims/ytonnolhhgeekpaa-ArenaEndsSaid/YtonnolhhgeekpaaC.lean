/-
  Arena: the chapter's example.
-/
import Derived.Test.YtonnolhhgeekpaaB
namespace Go.Proofs.Ytonnolhhgeekpaa
open Go.RowKit

theorem aw_put1 {B x : Nat} (w : World) (h : SOne B w x [] 3 0) :
    Calls Try.prog 29 #[.pointer (some ⟨x, 0, none⟩), .slice (some ⟨w.heap.size, 0, none⟩) 2 2] (w.alloc (.cells #[.string ⟨#[97]⟩, .string ⟨#[98]⟩] 9)) fun e w' => e = .returned (.tuple #[.int .i64 0, .int .i64 0]) ∧ SOne B w' x (([⟨#[97]⟩, ⟨#[98]⟩] : List ByteArray).map Value.string) 3 2 ∧ Below B w w' := by
  have hb : Below w.heap.size w (w.alloc (.cells #[.string ⟨#[97]⟩, .string ⟨#[98]⟩] 9)) := (Below.refl _ _).alloc (Nat.le_refl _) _
  refine (Sput1 _ (h.later hb) (cells_lit w #[.string ⟨#[97]⟩, .string ⟨#[98]⟩] 9 (0, 0) 2 rfl (by simp [Value.oneCell']) (by omega)) (by simp) (by simp)).mono ?_
  rintro e w' ⟨rfl, h1, h2⟩
  exact ⟨rfl, h1, (hb.mono h.2.1).trans h2⟩

theorem aw_put2 {B x : Nat} (w : World) (h : SOne B w x (([⟨#[97]⟩, ⟨#[98]⟩] : List ByteArray).map Value.string) 3 2) :
    Calls Try.prog 29 #[.pointer (some ⟨x, 0, none⟩), .slice (some ⟨w.heap.size, 0, none⟩) 1 1] (w.alloc (.cells #[.string ⟨#[99]⟩] 9)) fun e w' => e = .returned (.tuple #[.int .i64 2, .int .i64 0]) ∧ SOne B w' x (([⟨#[97]⟩, ⟨#[98]⟩, ⟨#[99]⟩] : List ByteArray).map Value.string) 3 3 ∧ Below B w w' := by
  have hb : Below w.heap.size w (w.alloc (.cells #[.string ⟨#[99]⟩] 9)) := (Below.refl _ _).alloc (Nat.le_refl _) _
  refine (Sput1 _ (h.later hb) (cells_lit w #[.string ⟨#[99]⟩] 9 (0, 0) 1 rfl (by simp [Value.oneCell']) (by omega)) (by simp) (by simp)).mono ?_
  rintro e w' ⟨rfl, h1, h2⟩
  exact ⟨rfl, h1, (hb.mono h.2.1).trans h2⟩

theorem aw_put3 {B x : Nat} (w : World) (h : SOne B w x (([⟨#[97]⟩, ⟨#[98]⟩, ⟨#[99]⟩] : List ByteArray).map Value.string) 3 3) :
    Calls Try.prog 29 #[.pointer (some ⟨x, 0, none⟩), .slice (some ⟨w.heap.size, 0, none⟩) 1 1] (w.alloc (.cells #[.string ⟨#[100]⟩] 9)) fun e w' => e = .returned (.tuple #[.int .i64 0, .int .i64 12]) ∧ SOne B w' x (([⟨#[97]⟩, ⟨#[98]⟩, ⟨#[99]⟩] : List ByteArray).map Value.string) 3 3 ∧ Below B w w' := by
  have hb : Below w.heap.size w (w.alloc (.cells #[.string ⟨#[100]⟩] 9)) := (Below.refl _ _).alloc (Nat.le_refl _) _
  refine (Sput1_full _ (h.later hb) (cells_lit w #[.string ⟨#[100]⟩] 9 (0, 0) 1 rfl (by simp [Value.oneCell']) (by omega)) (by simp)).mono ?_
  rintro e w' ⟨rfl, h1, h2⟩
  exact ⟨rfl, h1, (hb.mono h.2.1).trans h2⟩

theorem aw_back {B x : Nat} (w : World) (h : SOne B w x (([⟨#[97]⟩, ⟨#[98]⟩, ⟨#[99]⟩] : List ByteArray).map Value.string) 3 3) :
    Calls Try.prog 31 #[.pointer (some ⟨x, 0, none⟩), .int .i64 2] w fun e w' => e = .returned (.int .i64 0) ∧ SOne B w' x (([⟨#[97]⟩, ⟨#[98]⟩] : List ByteArray).map Value.string) 3 3 ∧ Below B w w' :=
  Sback1 w 2 h (by simp)

theorem aw_at {B x : Nat} (w : World) (h : SOne B w x (([⟨#[97]⟩, ⟨#[98]⟩] : List ByteArray).map Value.string) 3 3) :
    Calls Try.prog 32 #[.pointer (some ⟨x, 0, none⟩), .int .i64 1] w fun e w' => e = .returned (.tuple #[.string ⟨#[98]⟩, .bool true]) ∧ w = w' :=
  Sat1 w 1 h

set_option maxHeartbeats 1000000 in
theorem awake_any (w : World) : Calls Try.prog 7 #[] w fun e w' => e = .returned (.bool true) ∧ Below w.heap.size w w' := by
  have heq : ((⟨#[98]⟩ : ByteArray).data.toList == [98]) = true := by decide
  go_enter Try.func7, Try.ntmps7
  go_wp2_with fail
  refine (Snew1 3 w (by omega)).mono ?_
  rintro e w1 ⟨x, rfl, h1, hb1⟩
  have H1 := Lib.hid h1
  clear h1
  go_wp2_with fail
  refine (aw_put1 w1 H1.out).mono ?_
  rintro e w2 ⟨rfl, h2, hb2⟩
  have H2 := Lib.hid h2
  clear h2
  go_wp2_with fail
  refine (Smark1 w2 H2.out).mono ?_
  rintro e w3 ⟨rfl, rfl⟩
  go_wp2_with fail
  refine (aw_put2 w2 H2.out).mono ?_
  rintro e w4 ⟨rfl, h4, hb4⟩
  have H4 := Lib.hid h4
  clear h4
  go_wp2_with fail
  refine (aw_put3 w4 H4.out).mono ?_
  rintro e w5 ⟨rfl, h5, hb5⟩
  have H5 := Lib.hid h5
  clear h5
  go_wp2_with fail
  refine (aw_back w5 H5.out).mono ?_
  rintro e w6 ⟨rfl, h6, hb6⟩
  have H6 := Lib.hid h6
  clear h6
  go_wp2_with fail
  refine (aw_at w6 H6.out).mono ?_
  rintro e w7 ⟨rfl, rfl⟩
  go_wp2_with fail
  refine (Slen1 w6 H6.out).mono ?_
  rintro e w7 ⟨rfl, rfl⟩
  go_wp2_with fail
  refine (Speak1 w6 H6.out).mono ?_
  rintro e w7 ⟨rfl, rfl⟩
  go_wp2
  go_ret
  exact ⟨rfl, ((((hb1.trans hb2).trans hb4).trans hb5).trans hb6)⟩

end Go.Proofs.Ytonnolhhgeekpaa
