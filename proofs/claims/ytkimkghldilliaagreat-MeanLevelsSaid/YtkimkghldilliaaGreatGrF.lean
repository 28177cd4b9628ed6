/-
  gram: whether a text is a name.
-/
import Derived.Test.YtkimkghldilliaaGreatGrE
import Derived.Shelf.Strings.FuncGrows
namespace Go.Proofs.YtkimkghldilliaaGreat
open Go.RowKit Go.Lib Go.Maps

/-- a rune that no name has. -/
def oddR (x : Nat) : Bool := !isLetter x && (decide (x < 48) || decide (57 < x))
set_option maxRecDepth 100000 in
set_option maxHeartbeats 2000000 in
theorem letter_any (x : Nat) (hx : x ≤ 1114111) (w : World) : Calls Tryz.prog 121 #[.int .i32 (x : Int)] w fun e w' => e = .returned (.bool (isLetter x)) ∧ Below w.heap.size w w' := by
  have key : ∀ q, isLetter x = q → Calls Tryz.prog 121 #[.int .i32 (x : Int)] w fun e w' => e = .returned (.bool q) ∧ Below w.heap.size w w' := by
    intro q hq
    by_cases h1 : 97 ≤ x
    · have d1 : decide ((97 : Int) ≤ (x : Int)) = true := by simpa using (by omega : (97 : Int) ≤ x)
      by_cases h2 : x ≤ 122
      · have d2 : decide ((x : Int) ≤ (122 : Int)) = true := by simpa using (by omega : (x : Int) ≤ 122)
        have hq2 := Lib.hid (show q = true by rw [← hq]; simp [isLetter, h1, h2])
        clear hq h1 h2
        go_enter Tryz.func121, Tryz.ntmps121
        go_wp2
        go_ret
        exact ⟨ret_bool hq2.out.symm, Below.refl _ _⟩
      · have d2 : decide ((x : Int) ≤ (122 : Int)) = false := by simpa using (by omega : ¬ (x : Int) ≤ 122)
        have d3 : decide ((x : Int) ≤ (90 : Int)) = false := by simpa using (by omega : ¬ (x : Int) ≤ 90)
        have d4 : decide ((65 : Int) ≤ (x : Int)) = true := by simpa using (by omega : (65 : Int) ≤ x)
        have d5 : ((x : Int) == 95) = false := by simp; omega
        have hq2 := Lib.hid (show q = false by rw [← hq]; simp [isLetter]; omega)
        clear hq h1 h2
        go_enter Tryz.func121, Tryz.ntmps121
        go_wp2
        go_ret
        exact ⟨ret_bool hq2.out.symm, Below.refl _ _⟩
    · have d1 : decide ((97 : Int) ≤ (x : Int)) = false := by simpa using (by omega : ¬ (97 : Int) ≤ x)
      by_cases h2 : 65 ≤ x
      · have d2 : decide ((65 : Int) ≤ (x : Int)) = true := by simpa using (by omega : (65 : Int) ≤ x)
        by_cases h3 : x ≤ 90
        · have d3 : decide ((x : Int) ≤ (90 : Int)) = true := by simpa using (by omega : (x : Int) ≤ 90)
          have hq2 := Lib.hid (show q = true by rw [← hq]; simp [isLetter, h2, h3])
          clear hq h1 h2 h3
          go_enter Tryz.func121, Tryz.ntmps121
          go_wp2
          go_ret
          exact ⟨ret_bool hq2.out.symm, Below.refl _ _⟩
        · have d3 : decide ((x : Int) ≤ (90 : Int)) = false := by simpa using (by omega : ¬ (x : Int) ≤ 90)
          obtain ⟨c, hc⟩ : ∃ c, c = (x == 95) := ⟨_, rfl⟩
          have d5 : ((x : Int) == 95) = c := by rw [hc, Bool.eq_iff_iff]; simp; omega
          have hq2 := Lib.hid (show q = c by rw [← hq, hc, Bool.eq_iff_iff]; simp [isLetter]; omega)
          clear hq h1 h2 h3 hc
          go_enter Tryz.func121, Tryz.ntmps121
          go_wp2
          go_ret
          exact ⟨ret_bool hq2.out.symm, Below.refl _ _⟩
      · have d2 : decide ((65 : Int) ≤ (x : Int)) = false := by simpa using (by omega : ¬ (65 : Int) ≤ x)
        have d5 : ((x : Int) == 95) = false := by simp; omega
        have hq2 := Lib.hid (show q = false by rw [← hq]; simp [isLetter]; omega)
        clear hq h1 h2
        go_enter Tryz.func121, Tryz.ntmps121
        go_wp2
        go_ret
        exact ⟨ret_bool hq2.out.symm, Below.refl _ _⟩
  exact key _ rfl
set_option maxRecDepth 100000 in
set_option maxHeartbeats 2000000 in
theorem odd_any (x b : Nat) (hx : x ≤ 1114111) (w : World) (hb : w.cell? ⟨b, 0, none⟩ = some (fnv 121)) : Calls Tryz.prog 122 #[.int .i32 (x : Int), .pointer (some ⟨b, 0, none⟩)] w fun e w' => e = .returned (.bool (oddR x)) ∧ Below w.heap.size w w' := by
  have HL := Lib.hid (fun wq => letter_any x hx wq)
  unfold fnv at hb
  unfold oddR
  obtain ⟨q, hq⟩ : ∃ q, q = isLetter x := ⟨_, rfl⟩
  rw [← hq] at HL ⊢
  clear hq
  obtain ⟨c, hc⟩ : ∃ c, c = decide (x < 48) := ⟨_, rfl⟩
  obtain ⟨d, hd⟩ : ∃ d, d = decide (57 < x) := ⟨_, rfl⟩
  have d1 : decide ((x : Int) < 48) = c := by rw [hc, Bool.eq_iff_iff]; simp; omega
  have d2 : decide ((57 : Int) < (x : Int)) = d := by rw [hd, Bool.eq_iff_iff]; simp; omega
  rw [← hc, ← hd]
  clear hc hd
  go_enter Tryz.func122, Tryz.ntmps122
  go_wp2_with fail
  refine (HL.out _).mono ?_
  rintro e w1 ⟨rfl, hb1⟩
  have HB1 := Lib.hid hb1
  clear hb hb1
  cases q <;> cases c
  all_goals
    go_wp2
    go_ret
    exact ⟨by simp, HB1.out⟩
set_option maxRecDepth 1000000 in
set_option maxHeartbeats 2000000 in
theorem indexFunc_any (b : Nat) (s : ByteArray) (w : World) (hb : w.cell? ⟨b, 0, none⟩ = some (fnv 121)) :
    Calls Tryz.prog 155 #[.string s, .func (.func 122) #[] #[.pointer (some ⟨b, 0, none⟩)], .bool true] w fun e w' => e = .returned (.int .i64 (Lib.idxFunc oddR true s)) ∧ Below w.heap.size w w' := by
  have hlt := block_lt_of_cell hb
  have HP := Lib.hid (show ∀ (x : Nat) (W : World), x ≤ 1114111 → Below w.heap.size w W → Calls Tryz.prog 122 #[.int .i32 (x : Int), .pointer (some ⟨b, 0, none⟩)] W fun e w' => e = .returned (.bool (oddR x)) ∧ Below W.heap.size W w' from fun x W hx hw => odd_any x b hx W (by rw [hw.cell hlt]; exact hb))
  clear hb
  go_enter Tryz.func155, Tryz.ntmps155
  go_wp2
  go_loopg [] s.size (fun gf wx => ∃ pos : Nat, wx.heap[w.heap.size]? = some (.stringIter s pos) ∧ Below w.heap.size w wx ∧ Lib.idxFuncFrom oddR true s gf pos = Lib.idxFunc oddR true s ∧ s.size ≤ pos + gf)
  case atStart => exact ⟨0, World.iter_heap w s 0, (Below.refl _ w).alloc (Nat.le_refl _) _, rfl, by omega⟩
  case round =>
    obtain ⟨pos, hit, hbw, hleft, hfu⟩ := hrel
    by_cases hps : pos < s.size
    · obtain ⟨g', rfl⟩ : ∃ g', gk = g' + 1 := ⟨gk - 1, by omega⟩
      have hnx : ∀ ty, (Instr.next (.pointer (some ⟨w.heap.size, 0, none⟩)) true ty).run Tryz.prog wr = _ := fun ty => Lib.run_next_any_at wr w.heap.size s pos ty hit hps
      have hwd := Lib.width_pos s pos
      have hle := Lib.rune_le s pos
      obtain ⟨R, hR⟩ : ∃ R, (Utf8.decode s pos).1 = R := ⟨_, rfl⟩
      obtain ⟨K, hK⟩ : ∃ K, (Utf8.decode s pos).2 = K := ⟨_, rfl⟩
      simp only [Lib.idxFuncFrom, hps, if_true, hR, hK] at hleft
      rw [hR, hK] at hnx
      rw [hR] at hle
      rw [hK] at hwd
      have hit2 := Lib.iterAt_heap wr w.heap.size s pos (pos + K) hit
      have hbw2 := Lib.below_iterAt hbw (k := w.heap.size) (Nat.le_refl _) s (pos + K)
      obtain ⟨W, hWd⟩ : ∃ W, wr.iterAt w.heap.size s (pos + K) = W := ⟨_, rfl⟩
      rw [hWd] at hnx hit2 hbw2
      have hltW : w.heap.size < W.heap.size := (Array.getElem?_eq_some_iff.1 hit2).1
      have HC := Lib.hid (HP.out R W hle hbw2)
      obtain ⟨q, hq⟩ : ∃ q, oddR R = q := ⟨_, rfl⟩
      rw [hq] at HC hleft
      have HLf := Lib.hid hleft
      have H2 := Lib.hid (And.intro hit2 hbw2)
      clear hR hK hWd hq hleft hit2 hbw2
      cases q
      · go_wp2_with (refine HC.out.mono ?_; rintro e W' ⟨rfl, hbc⟩)
        go_roundg g'
        case measure => omega
        case rel => exact ⟨pos + K, (hbc.block _ hltW).trans H2.out.1, (H2.out.2.trans (hbc.mono H2.out.2.size)), by simpa using HLf.out, by omega⟩
      · go_wp2_with (refine HC.out.mono ?_; rintro e W' ⟨rfl, hbc⟩)
        go_ret
        exact ⟨by rw [← HLf.out]; rfl, (H2.out.2.trans (hbc.mono H2.out.2.size))⟩
    · have hnx : ∀ ty, (Instr.next (.pointer (some ⟨w.heap.size, 0, none⟩)) true ty).run Tryz.prog wr = _ := fun ty => Lib.run_next_end_at wr w.heap.size s pos ty hit hps
      rw [Lib.idxFuncFrom_end oddR true s gk pos hps] at hleft
      go_wp2
      go_ret
      exact ⟨by rw [← hleft] <;> rfl, hbw⟩
set_option maxRecDepth 100000 in
theorem IndexFunc_any (b : Nat) (s : ByteArray) (w : World) (hb : w.cell? ⟨b, 0, none⟩ = some (fnv 121)) :
    Calls Tryz.prog 123 #[.string s, .func (.func 122) #[] #[.pointer (some ⟨b, 0, none⟩)]] w fun e w' => e = .returned (.int .i64 (Lib.idxFunc oddR true s)) ∧ Below w.heap.size w w' := by
  have HI := Lib.hid (indexFunc_any b s w hb)
  clear hb
  go_enter Tryz.func123, Tryz.ntmps123
  go_wp2_with fail
  refine HI.out.mono ?_
  rintro e w1 ⟨rfl, hb1⟩
  have HB1 := Lib.hid hb1
  clear hb1
  go_wp2
  go_ret
  exact ⟨rfl, HB1.out⟩
end Go.Proofs.YtkimkghldilliaaGreat
