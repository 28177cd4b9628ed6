/-
  Cut: the bytes of a span.
-/
import Derived.Test.YtndminmefacmnaaSby
namespace Go.Proofs.Ytndminmefacmnaa
open Go.RowKit Go.Lib

def cutS (t : List UInt8) (s : Sg) : Option (List UInt8) := if rightS s = true ∧ s.to ≤ t.length then some ((t.drop s.fr.toNat).take (s.to.toNat - s.fr.toNat)) else none
def CutR (w : World) (e : Ending) (w' : World) (r : Option (List UInt8)) : Prop := (match r with
  | some r => ∃ v', e = .returned (.tuple #[v', .int .i64 0]) ∧ w'.ownsRow w.heap.size 5 1 v' r.length (bv r)
  | none => e = .returned (.tuple #[.slice none 0 0, .int .i64 6])) ∧ Below w.heap.size w w'
theorem bytes_part {w : World} {b off n cap i j : Nat} {t : List UInt8} (h : BytesAt w (.slice (some ⟨b, off, none⟩) n cap) t) (hij : i ≤ j) (hj : j ≤ n) (hi : i ≤ cap) : BytesAt w (.slice (some ⟨b, off + i, none⟩) (j - i) (cap - i)) ((t.drop i).take (j - i)) := by
  obtain ⟨ao, b', off', cap', he, h1, h2, -, h4, h5⟩ := h
  simp only [Value.slice.injEq] at he
  obtain ⟨rfl, rfl, rfl⟩ := he
  have hlen : ((t.drop i).take (j - i)).length = j - i := by simp; omega
  refine ⟨some ⟨b, off + i, none⟩, b, off + i, cap - i, by rw [hlen], by omega, by omega, fun h => by simp at h, fun _ => rfl, fun k hk => ?_⟩
  rw [hlen] at hk
  have h6 := h4 (by omega)
  simp only [Option.some.injEq, Addr.mk.injEq, and_true] at h6
  obtain ⟨rfl, rfl⟩ := h6
  have h7 := h5 (i + k) (by omega)
  rw [show off + i + k = off + (i + k) from by omega, h7]
  simp
set_option maxHeartbeats 2000000 in
theorem sCut_any (fr tz : Int) (v : Value) (t : List UInt8) (w : World) (h : BytesAt w v t) (hl : t.length ≤ 1000000) :
    Calls Try.prog 23 #[v, .agg #[.int .i64 fr, .int .i64 tz]] w fun e w' => CutR w e w' (cutS t ⟨fr, tz⟩) := by
  have H := Lib.hid h
  have HR := Lib.hid (fun u => sRight_any fr tz u)
  have HLl := Lib.hid hl
  obtain ⟨ao, b, off, cap, rfl, hlc, hm, hnil, hao, -⟩ := h
  obtain ⟨n, hn⟩ : ∃ n, n = t.length := ⟨_, rfl⟩
  have HN := Lib.hid hn
  rw [← hn] at hlc hnil hao H hl ⊢
  have hm2 : cap ≤ 9223372036854775807 := by unfold maxLen at hm; omega
  have HNil := Lib.hid hnil
  have HAo := Lib.hid hao
  have HM := Lib.hid hm
  clear hn hnil hao hm
  cases hr : srB fr tz
  · rw [hr] at HR
    have HC := Lib.hid (show cutS t ⟨fr, tz⟩ = none from if_neg (fun h => by rw [← srB_eq, hr] at h; exact absurd h.1 (by simp)))
    clear hr
    go_enter Try.func23, Try.ntmps23
    go_upto_region 1 with (fail)
    obtain ⟨hb0, hx⟩ := one_new w (.cells #[.int .i64 fr, .int .i64 tz] 23 (0, 0))
    refine gen_world (S := fun u => Below w.heap.size w u ∧ u.heap[w.heap.size]? = some (.cells #[.int .i64 fr, .int .i64 tz] 23 (0, 0))) ⟨hb0, hx⟩ (fun u hu => ?_)
    obtain ⟨hbu, hxu⟩ := hu
    have HX := Lib.hid hxu
    have HB := Lib.hid hbu
    obtain ⟨x0, x1⟩ := two_box hxu
    obtain ⟨X, hX⟩ : ∃ X, X = w.heap.size := ⟨_, rfl⟩
    rw [← hX] at x0 x1 HX ⊢
    clear hb0 hx hbu hxu hX
    go_wp2_with fail
    refine (HR.out _).mono ?_
    rintro e u2 ⟨rfl, hb⟩
    have hx2 := (hb.block _ (lt_of_block HX.out)).trans HX.out
    clear x0 x1
    obtain ⟨x0, x1⟩ := two_box hx2
    replace HB := Lib.hid (HB.out.trans (hb.mono HB.out.size))
    clear hb hx2 HX
    go_wp2
    refine bodyPost_ret (v := .tuple #[.slice none 0 0, .int .i64 6]) (by simp [results, Try.f23, go_sem]) rfl ?_
    rw [HC.out]
    exact ⟨rfl, HB.out⟩
  · rw [hr] at HR
    have h2 : 0 ≤ fr ∧ fr ≤ tz := by simpa [srB] using hr
    obtain ⟨i, rfl⟩ : ∃ i : Nat, fr = i := ⟨fr.toNat, by omega⟩
    obtain ⟨j, rfl⟩ : ∃ j : Nat, tz = j := ⟨tz.toNat, by omega⟩
    have hij : i ≤ j := by omega
    have HRr := Lib.hid (show rightS ⟨i, j⟩ = true from hr)
    clear hr h2
    by_cases hjn : n < j
    · have hjn' : (n : Int) < (j : Int) := by omega
      have HC := Lib.hid (show cutS t ⟨i, j⟩ = none from if_neg (fun h => by have := h.2; simp only at this; rw [← HN.out] at this; omega))
      go_enter Try.func23, Try.ntmps23
      go_upto_region 1 with (fail)
      obtain ⟨hb0, hx⟩ := one_new w (.cells #[.int .i64 (i : Int), .int .i64 (j : Int)] 23 (0, 0))
      refine gen_world (S := fun u => Below w.heap.size w u ∧ u.heap[w.heap.size]? = some (.cells #[.int .i64 (i : Int), .int .i64 (j : Int)] 23 (0, 0))) ⟨hb0, hx⟩ (fun u hu => ?_)
      obtain ⟨hbu, hxu⟩ := hu
      have HX := Lib.hid hxu
      have HB := Lib.hid hbu
      obtain ⟨x0, x1⟩ := two_box hxu
      obtain ⟨X, hX⟩ : ∃ X, X = w.heap.size := ⟨_, rfl⟩
      rw [← hX] at x0 x1 HX ⊢
      clear hb0 hx hbu hxu hX
      go_wp2_with fail
      refine (HR.out _).mono ?_
      rintro e u2 ⟨rfl, hb⟩
      have hx2 := (hb.block _ (lt_of_block HX.out)).trans HX.out
      clear x0 x1
      obtain ⟨x0, x1⟩ := two_box hx2
      replace HB := Lib.hid (HB.out.trans (hb.mono HB.out.size))
      clear hb hx2 HX
      go_wp2
      refine bodyPost_ret (v := .tuple #[.slice none 0 0, .int .i64 6]) (by simp [results, Try.f23, go_sem]) rfl ?_
      rw [HC.out]
      exact ⟨rfl, HB.out⟩
    · have hjn' : ¬ (n : Int) < (j : Int) := by omega
      have HC := Lib.hid (show cutS t ⟨i, j⟩ = some ((t.drop i).take (j - i)) from if_pos ⟨HRr.out, by simp only; rw [← HN.out]; omega⟩)
      have g1 : (i : Int) ≤ j := by omega
      have g2 : (j : Int) ≤ n := by omega
      have g3 : (j : Int) ≤ cap := by omega
      have g4 : j ≤ cap := by omega
      by_cases hn0 : n = 0
      · have HE := Lib.hid (show (t.drop i).take (j - i) = [] from by rw [show j - i = 0 from by omega]; rfl)
        have HI := Lib.hid (show i = 0 ∧ j = 0 from by omega)
        obtain ⟨hi0, hj0⟩ := HI.out
        subst hi0
        subst hj0
        subst hn0
        cases ao with
        | none =>
          obtain rfl : cap = 0 := (HNil.out rfl).2
          have HBe := Lib.hid (fun u => bytes_nil u)
          go_enter Try.func23, Try.ntmps23
          go_upto_region 1 with (fail)
          obtain ⟨hb0, hx⟩ := one_new w (.cells #[.int .i64 ((0 : Nat) : Int), .int .i64 ((0 : Nat) : Int)] 23 (0, 0))
          refine gen_world (S := fun u => Below w.heap.size w u ∧ u.heap[w.heap.size]? = some (.cells #[.int .i64 ((0 : Nat) : Int), .int .i64 ((0 : Nat) : Int)] 23 (0, 0))) ⟨hb0, hx⟩ (fun u hu => ?_)
          obtain ⟨hbu, hxu⟩ := hu
          have HX := Lib.hid hxu
          have HB := Lib.hid hbu
          obtain ⟨x0, x1⟩ := two_box hxu
          obtain ⟨X, hX⟩ : ∃ X, X = w.heap.size := ⟨_, rfl⟩
          rw [← hX] at x0 x1 HX ⊢
          clear hb0 hx hbu hxu hX
          go_wp2_with fail
          refine (HR.out _).mono ?_
          rintro e u2 ⟨rfl, hb⟩
          have hx2 := (hb.block _ (lt_of_block HX.out)).trans HX.out
          clear x0 x1
          obtain ⟨x0, x1⟩ := two_box hx2
          replace HB := Lib.hid (HB.out.trans (hb.mono HB.out.size))
          clear hb hx2 HX
          go_wp2_with fail
          refine (bytes_clone u2 _ [] (HBe.out _) (by simp)).mono ?_
          rintro e u3 ⟨v', rfl, ho, hb⟩
          have HB3 := Lib.hid (HB.out.trans (hb.mono HB.out.size))
          have HO3 := Lib.hid (ownsRow_base ho HB.out.size)
          clear hb ho
          go_wp2
          refine bodyPost_ret (v := .tuple #[v', .int .i64 0]) (by simp [results, Try.f23, go_sem]) rfl ?_
          rw [HC.out, HE.out]
          exact ⟨⟨_, rfl, HO3.out⟩, HB3.out⟩
        | some ad =>
          by_cases hc0 : cap = 0
          · subst hc0
            have HBe := Lib.hid (fun (u : World) (X : Addr) => bytes_empty u (some X) 0 (by unfold maxLen; omega) (fun h => by cases h))
            go_enter Try.func23, Try.ntmps23
            go_upto_region 1 with (fail)
            obtain ⟨hb0, hx⟩ := one_new w (.cells #[.int .i64 ((0 : Nat) : Int), .int .i64 ((0 : Nat) : Int)] 23 (0, 0))
            refine gen_world (S := fun u => Below w.heap.size w u ∧ u.heap[w.heap.size]? = some (.cells #[.int .i64 ((0 : Nat) : Int), .int .i64 ((0 : Nat) : Int)] 23 (0, 0))) ⟨hb0, hx⟩ (fun u hu => ?_)
            obtain ⟨hbu, hxu⟩ := hu
            have HX := Lib.hid hxu
            have HB := Lib.hid hbu
            obtain ⟨x0, x1⟩ := two_box hxu
            obtain ⟨X, hX⟩ : ∃ X, X = w.heap.size := ⟨_, rfl⟩
            rw [← hX] at x0 x1 HX ⊢
            clear hb0 hx hbu hxu hX
            go_wp2_with fail
            refine (HR.out _).mono ?_
            rintro e u2 ⟨rfl, hb⟩
            have hx2 := (hb.block _ (lt_of_block HX.out)).trans HX.out
            clear x0 x1
            obtain ⟨x0, x1⟩ := two_box hx2
            replace HB := Lib.hid (HB.out.trans (hb.mono HB.out.size))
            clear hb hx2 HX
            go_wp2_with fail
            refine (bytes_clone u2 _ [] (HBe.out _ _) (by simp)).mono ?_
            rintro e u3 ⟨v', rfl, ho, hb⟩
            have HB3 := Lib.hid (HB.out.trans (hb.mono HB.out.size))
            have HO3 := Lib.hid (ownsRow_base ho HB.out.size)
            clear hb ho
            go_wp2
            refine bodyPost_ret (v := .tuple #[v', .int .i64 0]) (by simp [results, Try.f23, go_sem]) rfl ?_
            rw [HC.out, HE.out]
            exact ⟨⟨_, rfl, HO3.out⟩, HB3.out⟩
          · have hc0' : ¬ cap = 0 := hc0
            have HBe := Lib.hid (fun (u : World) (X : Addr) => bytes_empty u (some X) cap HM.out (fun h => by cases h))
            go_enter Try.func23, Try.ntmps23
            go_upto_region 1 with (fail)
            obtain ⟨hb0, hx⟩ := one_new w (.cells #[.int .i64 ((0 : Nat) : Int), .int .i64 ((0 : Nat) : Int)] 23 (0, 0))
            refine gen_world (S := fun u => Below w.heap.size w u ∧ u.heap[w.heap.size]? = some (.cells #[.int .i64 ((0 : Nat) : Int), .int .i64 ((0 : Nat) : Int)] 23 (0, 0))) ⟨hb0, hx⟩ (fun u hu => ?_)
            obtain ⟨hbu, hxu⟩ := hu
            have HX := Lib.hid hxu
            have HB := Lib.hid hbu
            obtain ⟨x0, x1⟩ := two_box hxu
            obtain ⟨X, hX⟩ : ∃ X, X = w.heap.size := ⟨_, rfl⟩
            rw [← hX] at x0 x1 HX ⊢
            clear hb0 hx hbu hxu hX
            go_wp2_with fail
            refine (HR.out _).mono ?_
            rintro e u2 ⟨rfl, hb⟩
            have hx2 := (hb.block _ (lt_of_block HX.out)).trans HX.out
            clear x0 x1
            obtain ⟨x0, x1⟩ := two_box hx2
            replace HB := Lib.hid (HB.out.trans (hb.mono HB.out.size))
            clear hb hx2 HX
            go_wp2_with fail
            refine (bytes_clone u2 _ [] (HBe.out _ _) (by simp)).mono ?_
            rintro e u3 ⟨v', rfl, ho, hb⟩
            have HB3 := Lib.hid (HB.out.trans (hb.mono HB.out.size))
            have HO3 := Lib.hid (ownsRow_base ho HB.out.size)
            clear hb ho
            go_wp2
            refine bodyPost_ret (v := .tuple #[v', .int .i64 0]) (by simp [results, Try.f23, go_sem]) rfl ?_
            rw [HC.out, HE.out]
            exact ⟨⟨_, rfl, HO3.out⟩, HB3.out⟩
      · obtain rfl : ao = some ⟨b, off, none⟩ := HAo.out (by omega)
        by_cases hci : cap = i
        · have HE := Lib.hid (show (t.drop i).take (j - i) = [] from by rw [show j - i = 0 from by omega]; rfl)
          have hji : j - i = 0 := by omega
          have hci2 : cap - i = 0 := by omega
          have HBe := Lib.hid (fun (u : World) (X : Addr) => bytes_empty u (some X) 0 (by unfold maxLen; omega) (fun h => by cases h))
          go_enter Try.func23, Try.ntmps23
          go_upto_region 1 with (fail)
          obtain ⟨hb0, hx⟩ := one_new w (.cells #[.int .i64 (i : Int), .int .i64 (j : Int)] 23 (0, 0))
          refine gen_world (S := fun u => Below w.heap.size w u ∧ u.heap[w.heap.size]? = some (.cells #[.int .i64 (i : Int), .int .i64 (j : Int)] 23 (0, 0))) ⟨hb0, hx⟩ (fun u hu => ?_)
          obtain ⟨hbu, hxu⟩ := hu
          have HX := Lib.hid hxu
          have HB := Lib.hid hbu
          obtain ⟨x0, x1⟩ := two_box hxu
          obtain ⟨X, hX⟩ : ∃ X, X = w.heap.size := ⟨_, rfl⟩
          rw [← hX] at x0 x1 HX ⊢
          clear hb0 hx hbu hxu hX
          go_wp2_with fail
          refine (HR.out _).mono ?_
          rintro e u2 ⟨rfl, hb⟩
          have hx2 := (hb.block _ (lt_of_block HX.out)).trans HX.out
          clear x0 x1
          obtain ⟨x0, x1⟩ := two_box hx2
          replace HB := Lib.hid (HB.out.trans (hb.mono HB.out.size))
          clear hb hx2 HX
          go_wp2_with fail
          refine (bytes_clone u2 _ [] (HBe.out _ _) (by simp)).mono ?_
          rintro e u3 ⟨v', rfl, ho, hb⟩
          have HB3 := Lib.hid (HB.out.trans (hb.mono HB.out.size))
          have HO3 := Lib.hid (ownsRow_base ho HB.out.size)
          clear hb ho
          go_wp2
          refine bodyPost_ret (v := .tuple #[v', .int .i64 0]) (by simp [results, Try.f23, go_sem]) rfl ?_
          rw [HC.out, HE.out]
          exact ⟨⟨_, rfl, HO3.out⟩, HB3.out⟩
        · have hci' : ¬ cap = i := hci
          have HBe := Lib.hid (fun (u : World) (hu : Below w.heap.size w u) => bytes_part (H.out.later hu) hij (by omega) (by omega))
          go_enter Try.func23, Try.ntmps23
          go_upto_region 1 with (fail)
          obtain ⟨hb0, hx⟩ := one_new w (.cells #[.int .i64 (i : Int), .int .i64 (j : Int)] 23 (0, 0))
          refine gen_world (S := fun u => Below w.heap.size w u ∧ u.heap[w.heap.size]? = some (.cells #[.int .i64 (i : Int), .int .i64 (j : Int)] 23 (0, 0))) ⟨hb0, hx⟩ (fun u hu => ?_)
          obtain ⟨hbu, hxu⟩ := hu
          have HX := Lib.hid hxu
          have HB := Lib.hid hbu
          obtain ⟨x0, x1⟩ := two_box hxu
          obtain ⟨X, hX⟩ : ∃ X, X = w.heap.size := ⟨_, rfl⟩
          rw [← hX] at x0 x1 HX ⊢
          clear hb0 hx hbu hxu hX
          go_wp2_with fail
          refine (HR.out _).mono ?_
          rintro e u2 ⟨rfl, hb⟩
          have hx2 := (hb.block _ (lt_of_block HX.out)).trans HX.out
          clear x0 x1
          obtain ⟨x0, x1⟩ := two_box hx2
          replace HB := Lib.hid (HB.out.trans (hb.mono HB.out.size))
          clear hb hx2 HX
          go_wp2_with fail
          refine (bytes_clone u2 _ ((t.drop i).take (j - i)) (HBe.out u2 HB.out) (by simp only [List.length_take]; have := HLl.out; omega)).mono ?_
          rintro e u3 ⟨v', rfl, ho, hb⟩
          have HB3 := Lib.hid (HB.out.trans (hb.mono HB.out.size))
          have HO3 := Lib.hid (ownsRow_base ho HB.out.size)
          clear hb ho
          go_wp2
          refine bodyPost_ret (v := .tuple #[v', .int .i64 0]) (by simp [results, Try.f23, go_sem]) rfl ?_
          rw [HC.out]
          exact ⟨⟨_, rfl, HO3.out⟩, HB3.out⟩
end Go.Proofs.Ytndminmefacmnaa
