/-
  Place: the walks of the readers of an index.
-/
import Derived.Test.YthapnknhodjepaaB
import Derived.Test.YthapnknhodjepaaP
namespace Go.Proofs.Ythapnknhodjepaa
open Go.RowKit

set_option maxHeartbeats 400000 in
theorem there_yes (b : Nat) (bb : Addr) (n cap : Nat) (w : World) (h0 : w.cell? ⟨b, 0, none⟩ = some (.slice (some bb) n cap)) (hn : 0 < n) :
    Calls Try.prog 18 #[.pointer (some ⟨b, 0, none⟩)] w fun e w' => e = .returned (.bool true) ∧ w = w' := by
  go_enter Try.func18, Try.ntmps18
  go_wp2
  go_ret
  exact ⟨rfl, rfl⟩

set_option maxHeartbeats 400000 in
theorem there_nil (w : World) :
    Calls Try.prog 18 #[.pointer none] w fun e w' => e = .returned (.bool false) ∧ w = w' := by
  go_enter Try.func18, Try.ntmps18
  go_wp2
  go_ret
  exact ⟨rfl, rfl⟩

set_option maxHeartbeats 400000 in
theorem there_bare (b : Nat) (w : World) (h0 : w.cell? ⟨b, 0, none⟩ = some (.slice none 0 0)) :
    Calls Try.prog 18 #[.pointer (some ⟨b, 0, none⟩)] w fun e w' => e = .returned (.bool false) ∧ w = w' := by
  go_enter Try.func18, Try.ntmps18
  go_wp2
  go_ret
  exact ⟨rfl, rfl⟩

set_option maxHeartbeats 400000 in
theorem lines_yes (x : Nat) (L : List Nat) (n : Nat) (w : World) (h : IdxAt w x L n) :
    Calls Try.prog 11 #[.pointer (some ⟨x, 0, none⟩)] w fun e w' => e = .returned (.int .i64 L.length) ∧ w = w' := by
  obtain ⟨bb, cap, h0, h1, hp, hl, hc⟩ := h
  have Hc := Lib.hid hc
  clear hc
  go_enter Try.func11, Try.ntmps11
  go_wp2_with (go_at_call 18; refine (there_yes _ _ _ _ _ h0 hp).mono ?_; rintro e w' ⟨rfl, rfl⟩)
  go_ret
  exact ⟨rfl, rfl⟩

set_option maxHeartbeats 400000 in
theorem len_yes (x : Nat) (L : List Nat) (n : Nat) (w : World) (h : IdxAt w x L n) :
    Calls Try.prog 17 #[.pointer (some ⟨x, 0, none⟩)] w fun e w' => e = .returned (.int .i64 n) ∧ w = w' := by
  obtain ⟨bb, cap, h0, h1, hp, hl, hc⟩ := h
  have Hc := Lib.hid hc
  clear hc
  go_enter Try.func17, Try.ntmps17
  go_wp2_with (go_at_call 18; refine (there_yes _ _ _ _ _ h0 hp).mono ?_; rintro e w' ⟨rfl, rfl⟩)
  go_ret
  exact ⟨rfl, rfl⟩

/-- no index: nil, or one without lines. -/
def NoIdx (w : World) (v : Value) : Prop := v = .pointer none ∨ ∃ b, v = .pointer (some ⟨b, 0, none⟩) ∧ w.cell? ⟨b, 0, none⟩ = some (.slice none 0 0)

theorem there_no (v : Value) (w : World) (h : NoIdx w v) :
    Calls Try.prog 18 #[v] w fun e w' => e = .returned (.bool false) ∧ w = w' := by
  rcases h with rfl | ⟨b, rfl, h⟩
  · exact there_nil w
  · exact there_bare b w h

set_option maxHeartbeats 400000 in
theorem lines_no (v : Value) (w : World) (h : NoIdx w v) :
    Calls Try.prog 11 #[v] w fun e w' => e = .returned (.int .i64 0) ∧ w = w' := by
  have H := Lib.hid h
  clear h
  go_enter Try.func11, Try.ntmps11
  go_wp2_with (go_at_call 18; refine (there_no _ _ H.out).mono ?_; rintro e w' ⟨rfl, rfl⟩)
  go_ret
  exact ⟨rfl, rfl⟩

set_option maxHeartbeats 400000 in
theorem len_no (v : Value) (w : World) (h : NoIdx w v) :
    Calls Try.prog 17 #[v] w fun e w' => e = .returned (.int .i64 0) ∧ w = w' := by
  have H := Lib.hid h
  clear h
  go_enter Try.func17, Try.ntmps17
  go_wp2_with (go_at_call 18; refine (there_no _ _ H.out).mono ?_; rintro e w' ⟨rfl, rfl⟩)
  go_ret
  exact ⟨rfl, rfl⟩

set_option maxHeartbeats 400000 in
theorem at_no (v : Value) (p : Int) (w : World) (h : NoIdx w v) :
    Calls Try.prog 9 #[v, .int .i64 p] w fun e w' => e = .returned (.tuple #[.int .i64 0, .int .i64 0, .bool false]) ∧ w = w' := by
  have H := Lib.hid h
  clear h
  go_enter Try.func9, Try.ntmps9
  go_wp2_with (go_at_call 18; refine (there_no _ _ H.out).mono ?_; rintro e w' ⟨rfl, rfl⟩)
  go_ret3
  exact ⟨rfl, rfl⟩

set_option maxHeartbeats 400000 in
theorem line_no (v : Value) (p : Int) (w : World) (h : NoIdx w v) :
    Calls Try.prog 12 #[v, .int .i64 p] w fun e w' => e = .returned (.tuple #[.int .i64 0, .int .i64 0, .bool false]) ∧ w = w' := by
  have H := Lib.hid h
  clear h
  by_cases hp : p < 1
  · go_enter Try.func12, Try.ntmps12
    go_wp2_with (go_at_call 11; refine (lines_no _ _ H.out).mono ?_; rintro e w' ⟨rfl, rfl⟩)
    go_ret3
    exact ⟨rfl, rfl⟩
  · have hp' : 0 < p := by omega
    go_enter Try.func12, Try.ntmps12
    go_wp2_with (go_at_call 11; refine (lines_no _ _ H.out).mono ?_; rintro e w' ⟨rfl, rfl⟩)
    go_ret3
    exact ⟨rfl, rfl⟩

set_option maxHeartbeats 400000 in
theorem place_no (v : Value) (p c : Int) (w : World) (h : NoIdx w v) :
    Calls Try.prog 10 #[v, .int .i64 p, .int .i64 c] w fun e w' => e = .returned (.tuple #[.int .i64 0, .bool false]) ∧ w = w' := by
  have H := Lib.hid h
  clear h
  go_enter Try.func10, Try.ntmps10
  go_wp2_with (go_at_call 12; refine (line_no _ _ _ H.out).mono ?_; rintro e w' ⟨rfl, rfl⟩)
  go_ret2
  exact ⟨rfl, rfl⟩

set_option maxHeartbeats 400000 in
theorem end_any (x : Nat) (L : List Nat) (n : Nat) (k : Nat) (w : World) (h : IdxAt w x L n) (hk : k < L.length) :
    Calls Try.prog 20 #[.pointer (some ⟨x, 0, none⟩), .int .i64 k] w fun e w' => e = .returned (.int .i64 (if k + 1 < L.length then (L.getD (k + 1) 0 : Nat) else (n : Nat) : Nat)) ∧ w = w' := by
  obtain ⟨bb, cap, h0, h1, hp, hl, hc⟩ := h
  have Hc := Lib.hid hc
  clear hc
  by_cases hk1 : k + 1 < L.length
  · have hcell := Hc.out (k + 1) hk1
    rw [if_pos hk1]
    have hg : L.getD (k + 1) 0 = L[k + 1] := by simp [hk1]
    rw [hg]; clear hg
    obtain ⟨z, hz⟩ : ∃ z, z = L[k + 1] := ⟨_, rfl⟩
    rw [← hz] at hcell ⊢; clear hz
    go_enter Try.func20, Try.ntmps20
    go_wp2
    go_ret
    exact ⟨rfl, rfl⟩
  · rw [if_neg hk1]
    go_enter Try.func20, Try.ntmps20
    go_wp2
    go_ret
    exact ⟨rfl, rfl⟩

set_option maxHeartbeats 400000 in
theorem last_any (c1 c2 : Value) (n : Nat) (q : Nat → Bool) (w : World) (hm : n ≤ 1000001)
    (hc : Hid (∀ k : Nat, k < n → ∀ w1, Below w.heap.size w w1 → Calls Try.prog 27 #[.int .i64 k, c1, c2] w1 fun e w2 => e = .returned (.bool (q k)) ∧ Below w1.heap.size w1 w2)) :
    Calls Try.prog 26 #[.int .i64 n, .func (.func 27) #[] #[c1, c2]] w fun e w' => ∃ r : Nat, e = .returned (.int .i64 ((r : Int) - 1)) ∧ r ≤ n ∧ (r < n → q r = false) ∧ (0 < r → q (r-1) = true) ∧ Below w.heap.size w w' := by
  have hs : Hid (∀ k : Nat, k < n → ∀ w1, Below (w.alloc (.cells #[.func (.func 27) #[] #[c1, c2]] 52)).heap.size (w.alloc (.cells #[.func (.func 27) #[] #[c1, c2]] 52)) w1 → Calls Try.prog 30 #[.int .i64 k, .pointer (some ⟨w.heap.size, 0, none⟩)] w1 fun e w2 => e = .returned (.bool (!(q k))) ∧ Below w1.heap.size w1 w2) := by
    intro k hk w1 hb
    refine last1 w.heap.size 0 c1 c2 k (q k) w1 ?_ (hc.out k hk w1 (((Below.refl _ _).alloc (Nat.le_refl _) _).trans (hb.mono (by simp))))
    exact (hb.cell (p := ⟨w.heap.size, 0, none⟩) (by simp)).trans (by simp)
  go_enter Try.func26, Try.ntmps26
  go_wp2_with (go_at_call 29; refine (search _ n (fun k => !(q k)) _ hm hs).mono ?_; rintro e w' ⟨r, rfl, hr, hq1, hq2, hb⟩)
  go_ret
  exact ⟨r, rfl, hr, fun h => by simpa using hq1 h, fun h => by simpa using hq2 h, ((Below.refl _ _).alloc (Nat.le_refl _) _).trans (hb.mono (by simp))⟩

/-- the line of a place: the last one that begins at or ahead of it. -/
def LineOf (L : List Nat) (p : Int) (k : Nat) : Prop := k < L.length ∧ (L.getD k 0 : Int) ≤ p ∧ (k + 1 < L.length → p < L.getD (k + 1) 0)

set_option maxHeartbeats 400000 in
theorem of_any (x : Nat) (L : List Nat) (n : Nat) (p : Int) (w : World) (h : IdxAt w x L n) (h0p : (L.getD 0 0 : Int) ≤ p) :
    Calls Try.prog 19 #[.pointer (some ⟨x, 0, none⟩), .int .i64 p] w fun e w' => ∃ k : Nat, e = .returned (.int .i64 k) ∧ LineOf L p k ∧ Below w.heap.size w w' := by
  have hidx := Lib.hid h
  obtain ⟨bb, cap, h0, h1, hp, hl, hc⟩ := h
  have Hc := Lib.hid hc
  clear hc
  have hlen := hl
  have hs : Hid (∀ k : Nat, k < L.length → ∀ w1, Below ((w.alloc (.cells #[.pointer (some ⟨x, 0, none⟩)] 50)).alloc (.cells #[.int .i64 p] 3)).heap.size ((w.alloc (.cells #[.pointer (some ⟨x, 0, none⟩)] 50)).alloc (.cells #[.int .i64 p] 3)) w1 → Calls Try.prog 27 #[.int .i64 k, .pointer (some ⟨w.heap.size, 0, none⟩), .pointer (some ⟨w.heap.size + 1, 0, none⟩)] w1 fun e w2 => e = .returned (.bool (decide ((L.getD k 0 : Int) ≤ p))) ∧ Below w1.heap.size w1 w2) := by
    intro k hk w1 hb
    have hlt := World.block_lt_of_cell? _ _ h0
    have hlt2 := World.block_lt_of_cell? _ _ (Hc.out k hk)
    simp only at hlt hlt2
    refine (of1 k w.heap.size (w.heap.size + 1) x ⟨bb, 0, none⟩ L.length cap (L.getD k 0) p w1 (by unfold maxLen; omega) hk ?_ ?_ ?_ ?_).mono ?_
    · exact (hb.cell (p := ⟨w.heap.size, 0, none⟩) (by simp; omega)).trans (by simp)
    · exact (hb.cell (p := ⟨w.heap.size + 1, 0, none⟩) (by simp)).trans (by simp)
    · exact (hb.cell (p := ⟨x, 0, none⟩) (by simp; omega)).trans ((((Below.refl _ _).alloc (Nat.le_refl _) _).alloc (by simp) _).cell (p := ⟨x, 0, none⟩) hlt |>.trans h0)
    · have := Hc.out k hk
      rw [show L.getD k 0 = L[k] by simp [hk]]
      exact (hb.cell (p := ⟨bb, k, none⟩) (by simp; omega)).trans ((((Below.refl _ _).alloc (Nat.le_refl _) _).alloc (by simp) _).cell (p := ⟨bb, k, none⟩) hlt2 |>.trans this)
    · rintro e w2 ⟨rfl, m, rfl⟩
      exact ⟨rfl, rfl, rfl, rfl, Nat.le_refl _, fun _ _ => rfl⟩
  have hltx := World.block_lt_of_cell? _ _ h0
  simp only at hltx
  go_enter Try.func19, Try.ntmps19
  go_wp2_with (go_at_call 26; refine (last_any _ _ L.length (fun k => decide ((L.getD k 0 : Int) ≤ p)) _ hlen hs).mono ?_; rintro e w' ⟨r, rfl, hr, hq1, hq2, hb⟩)
  go_ret
  have hr0 : 0 < r := by
    rcases Nat.eq_zero_or_pos r with rfl | h
    · have := hq1 hp; simp only [decide_eq_false_iff_not] at this; omega
    · exact h
  refine ⟨r - 1, ret_int' (by omega), ⟨by omega, ?_, ?_⟩, (((Below.refl _ _).alloc (Nat.le_refl _) _).alloc (by simp) _).trans (hb.mono (by simp; omega))⟩
  · simpa using hq2 hr0
  · intro h
    rw [show r - 1 + 1 = r by omega] at h ⊢
    simpa using hq1 h

end Go.Proofs.Ythapnknhodjepaa
