/-
  Place: the contracts over a text.
-/
import Derived.Test.YthapnknhodjepaaD
import Derived.Test.YthapnknhodjepaaQ
import Derived.Test.YthapnknhodjepaaC
namespace Go.Proofs.Ythapnknhodjepaa
open Go.RowKit

set_option maxHeartbeats 800000 in
theorem place_out (x : Nat) (L : List Nat) (n : Nat) (l c : Int) (w : World) (h : IdxAt w x L n) (hp : l < 1 ∨ L.length < l) :
    Calls Try.prog 10 #[.pointer (some ⟨x, 0, none⟩), .int .i64 l, .int .i64 c] w fun e w' => e = .returned (.tuple #[.int .i64 0, .bool false]) ∧ w = w' := by
  have H := Lib.hid (line_out x L n l w h hp)
  clear h hp
  go_enter Try.func10, Try.ntmps10
  go_wp2_with (go_at_call 12; refine H.out.mono ?_; rintro e w' ⟨rfl, rfl⟩)
  go_ret2
  exact ⟨rfl, rfl⟩

/-- what Place does in a line that there is. -/
def PlaceOut (z y : Nat) (c : Int) (more : Bool) (e : Ending) : Prop :=
  e = if 1 ≤ c ∧ c ≤ (y : Int) - z + 1 ∧ ¬ (c = (y : Int) - z + 1 ∧ more = true) then .returned (.tuple #[.int .i64 ((z : Int) + c - 1), .bool true]) else .returned (.tuple #[.int .i64 0, .bool false])

set_option maxHeartbeats 1600000 in
theorem place_in (x : Nat) (L : List Nat) (n : Nat) (l : Int) (k : Nat) (c : Int) (w : World) (h : IdxAt w x L n) (hk : k < L.length) (hlk : l = k + 1)
    (z y : Nat) (hz : z = L.getD k 0) (hy : y = lineEnd L n k) (hzy : z ≤ y) (hyn : y ≤ 1000000) :
    Calls Try.prog 10 #[.pointer (some ⟨x, 0, none⟩), .int .i64 l, .int .i64 c] w fun e w' => PlaceOut z y c (decide (k + 1 < L.length)) e ∧ Below w.heap.size w w' := by
  have H := Lib.hid (line_in x L n l k w h hk hlk)
  rw [← hz, ← hy] at H
  clear hz hy
  have hidx := Lib.hid h
  clear h
  subst hlk
  by_cases c1 : c < 1
  · go_enter Try.func10, Try.ntmps10
    go_wp2_with (go_at_call 12; refine H.out.mono ?_; rintro e w' ⟨rfl, hb⟩)
    go_ret2
    exact ⟨by unfold PlaceOut; rw [if_neg (by omega)]; rfl, hb⟩
  by_cases c2 : (y : Int) - z + 1 < c
  · have c1' : ¬ c < 1 := c1
    go_enter Try.func10, Try.ntmps10
    go_wp2_with (go_at_call 12; refine H.out.mono ?_; rintro e w' ⟨rfl, hb⟩)
    go_ret2
    exact ⟨by unfold PlaceOut; rw [if_neg (by omega)]; rfl, hb⟩
  by_cases c3 : c = (y : Int) - z + 1
  · have c3' : (c == (y : Int) - z + 1) = true := by simpa using c3
    have C3 := Lib.hid c3
    clear c3
    by_cases c4 : k + 1 < L.length
    · have c4' : (k : Int) + 1 < L.length := by omega
      go_enter Try.func10, Try.ntmps10
      go_wp2_with (first | (go_at_call 12; refine H.out.mono ?_; rintro e w' ⟨rfl, hb⟩) | (go_at_call 11; refine (lines_yes _ _ _ _ (hidx.out.later hb)).mono ?_; rintro e w' ⟨rfl, rfl⟩))
      go_ret2
      exact ⟨by unfold PlaceOut; rw [if_neg (by have := C3.out; simp [c4, this])]; rfl, hb⟩
    · have c4' : ¬ (k : Int) + 1 < L.length := by omega
      go_enter Try.func10, Try.ntmps10
      go_wp2_with (first | (go_at_call 12; refine H.out.mono ?_; rintro e w' ⟨rfl, hb⟩) | (go_at_call 11; refine (lines_yes _ _ _ _ (hidx.out.later hb)).mono ?_; rintro e w' ⟨rfl, rfl⟩))
      go_ret2
      exact ⟨by unfold PlaceOut; rw [if_pos (by have := C3.out; simp [c4]; omega)]; rfl, hb⟩
  · have c3' : (c == (y : Int) - z + 1) = false := by simpa using c3
    have C3 := Lib.hid c3
    clear c3
    go_enter Try.func10, Try.ntmps10
    go_wp2_with (go_at_call 12; refine H.out.mono ?_; rintro e w' ⟨rfl, hb⟩)
    go_ret2
    exact ⟨by unfold PlaceOut; rw [if_pos (by have := C3.out; omega)]; rfl, hb⟩

/-- the index of a text. -/
abbrev TxtAt (w : World) (x : Nat) (t : List UInt8) : Prop := IdxAt w x (nls t t.length) t.length

theorem at_text (x : Nat) (t : List UInt8) (p : Nat) (w : World) (h : TxtAt w x t) (hn : t.length ≤ 1000000) (hp : p ≤ t.length) :
    Calls Try.prog 9 #[.pointer (some ⟨x, 0, none⟩), .int .i64 p] w fun e w' => e = .returned (.tuple #[.int .i64 (lno t p : Nat), .int .i64 (p - beg t p + 1 : Nat), .bool true]) ∧ Below w.heap.size w w' := by
  refine (at_in x _ _ p w h hp hn ?_).mono ?_
  · have := nls_at t t.length 0 (lno_pos t _)
    have h0 := nls_prefix t 0 t.length (Nat.zero_le _) 0 (by simp [lno])
    simpa [nls] using h0
  · rintro e w' ⟨k, rfl, hk, hb⟩
    have hl := lineOf_lno t t.length p k hp hk
    have := beg_le t p
    refine ⟨?_, hb⟩
    rw [hl.1, ← hl.2]
    congr 3
    simp; omega

theorem lineEnd_le (t : List UInt8) (k : Nat) (hk : k < lno t t.length) : (nls t t.length).getD k 0 ≤ lineEnd (nls t t.length) t.length k ∧ lineEnd (nls t t.length) t.length k ≤ t.length := by
  have h1 := nls_at t t.length k hk
  unfold lineEnd
  rw [nls_length]
  split
  · rename_i h
    have := nls_lt t t.length k h
    have := nls_at t t.length (k + 1) h
    omega
  · omega

/-- what Place answers. -/
def plcEnd (o : Option Nat) : Ending := match o with
  | some p => .returned (.tuple #[.int .i64 (p : Nat), .bool true])
  | none => .returned (.tuple #[.int .i64 0, .bool false])

theorem place_text (x : Nat) (t : List UInt8) (l c : Int) (w : World) (h : TxtAt w x t) (hn : t.length ≤ 1000000) :
    Calls Try.prog 10 #[.pointer (some ⟨x, 0, none⟩), .int .i64 l, .int .i64 c] w fun e w' => e = plcEnd (plc t l c) ∧ Below w.heap.size w w' := by
  by_cases hl : l < 1 ∨ (nls t t.length).length < l
  · refine (place_out x _ _ l c w h hl).mono ?_
    rintro e w' ⟨rfl, rfl⟩
    rw [plc_none]
    · exact ⟨rfl, Below.refl _ _⟩
    · intro p hp h1 _
      have := lno_mono t p _ hp
      have := lno_pos t p
      rw [nls_length] at hl
      omega
  · obtain ⟨k, hk⟩ : ∃ k : Nat, l = k + 1 := ⟨(l - 1).toNat, by omega⟩
    have hkl : k < lno t t.length := by rw [nls_length] at hl; omega
    have hle := lineEnd_le t k hkl
    have ha := nls_at t t.length k hkl
    refine (place_in x _ _ l k c w h (by rw [nls_length]; exact hkl) hk _ _ rfl rfl hle.1 (by omega)).mono ?_
    rintro e w' ⟨he, hb⟩
    refine ⟨?_, hb⟩
    unfold PlaceOut at he
    rw [he]; clear he
    rw [nls_length]
    have hend : lineEnd (nls t t.length) t.length k = if k + 1 < lno t t.length then (nls t t.length).getD (k + 1) 0 else t.length := by unfold lineEnd; rw [nls_length]
    split
    · rename_i hc
      obtain ⟨c1, c2, c3⟩ := hc
      have hw := lno_within t t.length k ((nls t t.length).getD k 0 + c - 1).toNat hkl (by omega) (by omega) (by
        intro hk1
        rw [if_pos hk1] at hend
        simp only [hk1, decide_true, and_true] at c3
        omega)
      rw [plc_some t l c ((nls t t.length).getD k 0 + c - 1).toNat (by omega) (by omega) (by rw [hw.2]; omega)]
      unfold plcEnd
      simp only
      rw [Int.toNat_of_nonneg (by omega)]
    · rename_i hc
      rw [plc_none]
      · rfl
      · intro p hp h1 h2
        have hlp : lno t p = k + 1 := by omega
        have hg := nls_getLast t p
        rw [hlp] at hg
        simp only [Nat.add_sub_cancel] at hg
        rw [← nls_prefix t p t.length hp k (by omega)] at hg
        have := beg_le t p
        apply hc
        have hlt : k + 1 < lno t t.length → p < (nls t t.length).getD (k + 1) 0 := by
          intro hk1
          rcases Nat.lt_or_ge p ((nls t t.length).getD (k + 1) 0) with h | h
          · exact h
          · have h3 := nls_at t t.length (k + 1) hk1
            have := lno_mono t _ _ h
            omega
        refine ⟨by omega, ?_, ?_⟩
        · split at hend
          · rename_i hk1
            have := hlt hk1
            omega
          · omega
        · rintro ⟨h3, h4⟩
          have hk1 : k + 1 < lno t t.length := by simpa using h4
          rw [if_pos hk1] at hend
          have := hlt hk1
          omega

end Go.Proofs.Ythapnknhodjepaa
