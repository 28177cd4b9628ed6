/-
  Place: At, Line, Place.
-/
import Derived.Test.YthapnknhodjepaaA
namespace Go.Proofs.Ythapnknhodjepaa
open Go.RowKit

set_option maxHeartbeats 400000 in
theorem at_out (x : Nat) (L : List Nat) (n : Nat) (p : Int) (w : World) (h : IdxAt w x L n) (hp : p < 0 ∨ n < p) :
    Calls Try.prog 9 #[.pointer (some ⟨x, 0, none⟩), .int .i64 p] w fun e w' => e = .returned (.tuple #[.int .i64 0, .int .i64 0, .bool false]) ∧ w = w' := by
  obtain ⟨bb, cap, h0, h1, hp0, hl, hc⟩ := h
  have Hc := Lib.hid hc
  clear hc
  by_cases hneg : p < 0
  · clear hp
    go_enter Try.func9, Try.ntmps9
    go_wp2_with (go_at_call 18; refine (there_yes _ _ _ _ _ h0 hp0).mono ?_; rintro e w' ⟨rfl, rfl⟩)
    go_ret3
    exact ⟨rfl, rfl⟩
  · have hgt : (n : Int) < p := by omega
    have hge : 0 ≤ p := by omega
    clear hp hneg
    go_enter Try.func9, Try.ntmps9
    go_wp2_with (go_at_call 18; refine (there_yes _ _ _ _ _ h0 hp0).mono ?_; rintro e w' ⟨rfl, rfl⟩)
    go_ret3
    exact ⟨rfl, rfl⟩

set_option maxHeartbeats 800000 in
theorem at_in (x : Nat) (L : List Nat) (n : Nat) (p : Nat) (w : World) (h : IdxAt w x L n) (hpn : p ≤ n) (hn : n ≤ 1000000) (h00 : L.getD 0 0 = 0) :
    Calls Try.prog 9 #[.pointer (some ⟨x, 0, none⟩), .int .i64 p] w fun e w' => ∃ k : Nat, e = .returned (.tuple #[.int .i64 (k + 1), .int .i64 ((p : Int) - L.getD k 0 + 1), .bool true]) ∧ LineOf L p k ∧ Below w.heap.size w w' := by
  have hidx := Lib.hid h
  have hof := Lib.hid (of_any x L n p w h (by rw [h00]; simp))
  obtain ⟨bb, cap, h0, h1, hp0, hl, hc⟩ := h
  have Hc := Lib.hid hc
  have H00 := Lib.hid h00
  clear hc h00
  go_enter Try.func9, Try.ntmps9
  go_wp2_with (first | (go_at_call 18; refine (there_yes _ _ _ _ _ h0 hp0).mono ?_; rintro e w' ⟨rfl, rfl⟩) | (go_at_call 19; refine hof.out.mono ?_; rintro e w' ⟨k, rfl, hk, hb⟩; have hb' := Lib.hid hb; have hk' := Lib.hid hk; have h0b := cell_later hb h0; have h1b := cell_later hb h1; have hcb := cell_later hb (Hc.out k hk.1); have hkl := hk.1; have hle := hk.2.1; obtain ⟨z, hz⟩ : ∃ z, z = L[k]'hkl := ⟨_, rfl⟩; rw [← hz] at hcb; have hz' := Lib.hid hz; rw [show L.getD k 0 = z by rw [hz]; simp [hkl]] at hle; clear hz hk hb))
  go_quiet (fail)
  go_wp2
  go_ret3
  exact ⟨k, by rw [show L.getD k 0 = z by rw [hz'.out]; simp [hkl]]; rfl, hk'.out, hb'.out.trans ⟨rfl, rfl, rfl, Nat.le_refl _, fun _ _ => rfl⟩⟩

set_option maxHeartbeats 400000 in
theorem line_out (x : Nat) (L : List Nat) (n : Nat) (l : Int) (w : World) (h : IdxAt w x L n) (hp : l < 1 ∨ L.length < l) :
    Calls Try.prog 12 #[.pointer (some ⟨x, 0, none⟩), .int .i64 l] w fun e w' => e = .returned (.tuple #[.int .i64 0, .int .i64 0, .bool false]) ∧ w = w' := by
  have hidx := Lib.hid h
  clear h
  by_cases hneg : l < 1
  · clear hp
    go_enter Try.func12, Try.ntmps12
    go_wp2_with (go_at_call 11; refine (lines_yes _ _ _ _ hidx.out).mono ?_; rintro e w' ⟨rfl, rfl⟩)
    go_ret3
    exact ⟨rfl, rfl⟩
  · have hgt : (L.length : Int) < l := by omega
    have hge : 0 < l := by omega
    clear hp hneg
    go_enter Try.func12, Try.ntmps12
    go_wp2_with (go_at_call 11; refine (lines_yes _ _ _ _ hidx.out).mono ?_; rintro e w' ⟨rfl, rfl⟩)
    go_ret3
    exact ⟨rfl, rfl⟩

/-- where line k (from 0 on) ends. -/
def lineEnd (L : List Nat) (n k : Nat) : Nat := if k + 1 < L.length then L.getD (k + 1) 0 else n

theorem end_quiet (x : Nat) (L : List Nat) (n : Nat) (k : Nat) (w : World) (m : Nat) (h : IdxAt w x L n) (hk : k < L.length) :
    Calls Try.prog 20 #[.pointer (some ⟨x, 0, none⟩), .int .i64 k] (w.drewN m) fun e w' => e = .returned (.int .i64 (lineEnd L n k : Nat)) ∧ ∃ m', w' = w.drewN m' :=
  (end_any x L n k (w.drewN m) (h.later ⟨rfl, rfl, rfl, Nat.le_refl _, fun _ _ => rfl⟩) hk).mono fun _ _ ⟨he, hw⟩ => ⟨he, m, hw.symm⟩

set_option maxHeartbeats 800000 in
theorem line_in (x : Nat) (L : List Nat) (n : Nat) (l : Int) (k : Nat) (w : World) (h : IdxAt w x L n) (hk : k < L.length) (hlk : l = k + 1) :
    Calls Try.prog 12 #[.pointer (some ⟨x, 0, none⟩), .int .i64 l] w fun e w' => e = .returned (.tuple #[.int .i64 (L.getD k 0 : Nat), .int .i64 (lineEnd L n k : Nat), .bool true]) ∧ Below w.heap.size w w' := by
  have hidx := Lib.hid h
  obtain ⟨bb, cap, h0, h1, hp0, hl, hc⟩ := h
  have hcell := hc k hk
  clear hc
  subst hlk
  have hg : L.getD k 0 = L[k] := by simp [hk]
  rw [hg]; clear hg
  obtain ⟨z, hz⟩ : ∃ z, z = L[k] := ⟨_, rfl⟩
  rw [← hz] at hcell ⊢; clear hz
  have hwk : IntKind.i64.wrap (k : Int) = k := IntWalk.i64_in _ (by omega)
  go_enter Try.func12, Try.ntmps12
  go_wp2_with (go_at_call 11; refine (lines_yes _ _ _ _ hidx.out).mono ?_; rintro e w' ⟨rfl, rfl⟩)
  go_quiet ((go_at_call 20; exact end_quiet x L n k w _ hidx.out hk))
  go_wp2
  go_ret3
  exact ⟨rfl, rfl, rfl, rfl, Nat.le_refl _, fun _ _ => rfl⟩

end Go.Proofs.Ythapnknhodjepaa
