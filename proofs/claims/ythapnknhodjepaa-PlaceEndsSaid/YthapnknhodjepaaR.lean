/-
  Place: the document's answer, walked; both sides by the same words.
-/
import Derived.Test.YthapnknhodjepaaG
namespace Go.Proofs.Ythapnknhodjepaa
open Go.RowKit

def atB (t : List UInt8) (p : Int) : Bool := decide (0 ≤ p ∧ p ≤ t.length)
def atL (t : List UInt8) (p : Int) : Int := if 0 ≤ p ∧ p ≤ t.length then (lno t p.toNat : Nat) else 0
def atC (t : List UInt8) (p : Int) : Int := if 0 ≤ p ∧ p ≤ t.length then (p.toNat - beg t p.toNat + 1 : Nat) else 0
def plP (t : List UInt8) (l c : Int) : Int := ((plc t l c).getD 0 : Nat)
def plB (t : List UInt8) (l c : Int) : Bool := (plc t l c).isSome
def lnB (t : List UInt8) (l : Int) : Bool := decide (1 ≤ l ∧ l ≤ lno t t.length)
def lnF (t : List UInt8) (l : Int) : Int := if 1 ≤ l ∧ l ≤ lno t t.length then ((nls t t.length).getD (l - 1).toNat 0 : Nat) else 0
def lnT (t : List UInt8) (l : Int) : Int := if 1 ≤ l ∧ l ≤ lno t t.length then (lineEnd (nls t t.length) t.length (l - 1).toNat : Nat) else 0

theorem plcEnd_eq (t : List UInt8) (l c : Int) : plcEnd (plc t l c) = .returned (.tuple #[.int .i64 (plP t l c), .bool (plB t l c)]) := by
  unfold plP plB; cases plc t l c <;> rfl

theorem at_tot (x : Nat) (t : List UInt8) (p : Int) (w : World) (h : TxtAt w x t) (hn : t.length ≤ 1000000) :
    Calls Try.prog 9 #[.pointer (some ⟨x, 0, none⟩), .int .i64 p] w fun e w' => e = .returned (.tuple #[.int .i64 (atL t p), .int .i64 (atC t p), .bool (atB t p)]) ∧ Below w.heap.size w w' := by
  by_cases hp : 0 ≤ p ∧ p ≤ t.length
  · obtain ⟨k, rfl⟩ : ∃ k : Nat, p = k := ⟨p.toNat, by omega⟩
    have := at_text x t k w h hn (by omega)
    simpa [atL, atC, atB, hp] using this
  · refine (at_out x _ _ p w h (by omega)).mono ?_
    rintro e w' ⟨rfl, rfl⟩
    exact ⟨by simp [atL, atC, atB, hp], Below.refl _ _⟩

theorem line_tot (x : Nat) (t : List UInt8) (l : Int) (w : World) (h : TxtAt w x t) :
    Calls Try.prog 12 #[.pointer (some ⟨x, 0, none⟩), .int .i64 l] w fun e w' => e = .returned (.tuple #[.int .i64 (lnF t l), .int .i64 (lnT t l), .bool (lnB t l)]) ∧ Below w.heap.size w w' := by
  by_cases hp : 1 ≤ l ∧ l ≤ lno t t.length
  · have hk : (l - 1).toNat < (nls t t.length).length := by rw [nls_length]; omega
    have := line_in x _ _ l (l - 1).toNat w h hk (by omega)
    simpa [lnF, lnT, lnB, hp] using this
  · refine (line_out x _ _ l w h (by rw [nls_length]; omega)).mono ?_
    rintro e w' ⟨rfl, rfl⟩
    exact ⟨by simp [lnF, lnT, lnB, hp], Below.refl _ _⟩

theorem place_tot (x : Nat) (t : List UInt8) (l c : Int) (w : World) (h : TxtAt w x t) (hn : t.length ≤ 1000000) :
    Calls Try.prog 10 #[.pointer (some ⟨x, 0, none⟩), .int .i64 l, .int .i64 c] w fun e w' => e = .returned (.tuple #[.int .i64 (plP t l c), .bool (plB t l c)]) ∧ Below w.heap.size w w' := by
  rw [← plcEnd_eq]
  exact place_text x t l c w h hn

theorem lno_hit (t : List UInt8) (k : Nat) (cb : UInt8) (hk : k < t.length) (hc : cb = t[k]) (h : (cb.toNat : Int) = 10) : lno t (k + 1) = lno t k + 1 ∧ beg t (k + 1) = k + 1 := by
  have : cb = 10 := (toNat_ten cb).1 h
  simp [lno, beg, List.getElem?_eq_getElem hk, ← hc, this]
theorem lno_miss (t : List UInt8) (k : Nat) (cb : UInt8) (hk : k < t.length) (hc : cb = t[k]) (h : ¬ (cb.toNat : Int) = 10) : lno t (k + 1) = lno t k ∧ beg t (k + 1) = beg t k := by
  have : cb ≠ 10 := by rintro rfl; simp at h
  simp [lno, beg, List.getElem?_eq_getElem hk, ← hc, this]

set_option maxHeartbeats 1000000 in
theorem refAt_any (v : Value) (t : List UInt8) (p : Int) (w : World) (ht : BytesAt w v t) (hl : t.length ≤ 1000000) :
    Calls Try.prog 22 #[v, .int .i64 p] w fun e w' => e = .returned (.tuple #[.int .i64 (atL t p), .int .i64 (atC t p), .bool (atB t p)]) ∧ w = w' := by
  obtain ⟨ao, b, off, cap, rfl, hlc, hm, _, hao, hc⟩ := ht
  have Hc := Lib.hid hc
  have Hao := Lib.hid hao
  clear hc hao hm
  obtain ⟨n, hn⟩ : ∃ n, n = t.length := ⟨_, rfl⟩
  have Hn := Lib.hid hn
  rw [← hn] at hl hlc Hao ⊢
  clear hn
  by_cases hp : 0 ≤ p ∧ p ≤ n
  · have Hfin : Hid (atL t p = (lno t p.toNat : Nat) ∧ atC t p = (p.toNat - beg t p.toNat + 1 : Nat) ∧ atB t p = true) := by
      have := hp; rw [Hn.out] at this; simp [Hid, atL, atC, atB, this]
    obtain ⟨q, rfl⟩ : ∃ q : Nat, p = q := ⟨p.toNat, by omega⟩
    have hqn : q ≤ n := by omega
    clear hp
    go_enter Try.func22, Try.ntmps22
    go_wp2
    go_loop [7, 8, 9] (fun l c i => ∃ k : Nat, k ≤ q ∧ i = .int .i64 k ∧ l = .int .i64 (lno t k : Nat) ∧ c = .int .i64 (k - beg t k + 1 : Nat)) (fun _ _ i => q - (intOf i).toNat)
    case atStart => exact ⟨0, by omega, rfl, rfl, rfl⟩
    case round =>
      obtain ⟨k, hk, rfl, rfl, rfl⟩ := hrel
      have hbg := beg_le t k
      have hln : lno t k ≤ k + 1 := by rw [← nls_length]; exact (nls_len t k).2
      obtain ⟨ln, hln'⟩ : ∃ ln, ln = lno t k := ⟨_, rfl⟩
      obtain ⟨cc, hcc⟩ : ∃ cc, cc = k - beg t k + 1 := ⟨_, rfl⟩
      have Hln := Lib.hid hln'
      have Hcc := Lib.hid hcc
      rw [← hln'] at hln ⊢
      rw [← hcc]
      have hcb : cc ≤ k + 1 := by omega
      clear hln' hcc hbg
      by_cases hlt : k < q
      · have hkt : k < t.length := by rw [← Hn.out]; omega
        obtain rfl := Hao.out (by omega)
        have hcell := Hc.out k hkt
        obtain ⟨cb, hcb'⟩ : ∃ cb, cb = t[k] := ⟨_, rfl⟩
        rw [← hcb'] at hcell
        have Hcb := Lib.hid hcb'
        clear hcb'
        by_cases h10 : (cb.toNat : Int) = 10
        · have h10' : ((cb.toNat : Int) == 10) = true := by simpa using h10
          have H10 := Lib.hid h10
          clear h10
          go_wp2
          go_round
          case rel =>
            have hh := lno_hit t k cb hkt Hcb.out H10.out
            exact ⟨k + 1, by omega, by go_num, by rw [hh.1, ← Hln.out]; go_num, by rw [hh.2]; simp⟩
          case measure => simp [intOf]; omega
        · have h10' : ((cb.toNat : Int) == 10) = false := by simpa using h10
          have H10 := Lib.hid h10
          clear h10
          go_wp2
          go_round
          case rel =>
            have hh := lno_miss t k cb hkt Hcb.out H10.out
            have := beg_le t k
            have := Hcc.out
            exact ⟨k + 1, by omega, by go_num, by rw [hh.1, ← Hln.out], by rw [hh.2, show k + 1 - beg t k + 1 = cc + 1 by omega]; go_num⟩
          case measure => simp [intOf]; omega
      · obtain rfl : k = q := by omega
        go_wp2
        go_ret3
        obtain ⟨h1, h2, h3⟩ := Hfin.out
        simp only [Int.toNat_natCast] at h1 h2
        rw [h1, h2, h3, ← Hln.out, ← Hcc.out]
        exact ⟨rfl, rfl⟩
  · have Hfin : Hid (atL t p = 0 ∧ atC t p = 0 ∧ atB t p = false) := by
      have := hp; rw [Hn.out] at this; simp [Hid, atL, atC, atB, this]
    by_cases h0 : p < 0
    · go_enter Try.func22, Try.ntmps22
      go_wp2
      go_ret3
      rw [Hfin.out.1, Hfin.out.2.1, Hfin.out.2.2]
      exact ⟨rfl, rfl⟩
    · have h0' : 0 ≤ p := by omega
      have h1 : (n : Int) < p := by omega
      clear hp
      go_enter Try.func22, Try.ntmps22
      go_wp2
      go_ret3
      rw [Hfin.out.1, Hfin.out.2.1, Hfin.out.2.2]
      exact ⟨rfl, rfl⟩

theorem refLines_any (v : Value) (t : List UInt8) (w : World) (ht : BytesAt w v t) (hl : t.length ≤ 1000000) :
    Calls Try.prog 25 #[v] w fun e w' => e = .returned (.int .i64 (lno t t.length : Nat)) ∧ w = w' := by
  have H := Lib.hid (refAt_any v t t.length w ht hl)
  have hL : atL t t.length = (lno t t.length : Nat) := by simp [atL]
  rw [hL] at H
  have ht' := Lib.hid ht
  obtain ⟨ao, b, off, cap, rfl, hlc, hm, _, hao, hc⟩ := ht
  clear hao hc hL hm
  go_enter Try.func25, Try.ntmps25
  go_wp2_with (go_at_call 22; refine H.out.mono ?_; rintro e w' ⟨rfl, rfl⟩)
  go_ret
  exact ⟨rfl, rfl⟩

end Go.Proofs.Ythapnknhodjepaa
