/-
  Cut, as the document has it.
-/
import Derived.Test.YtndminmefacmnaaSbc
namespace Go.Proofs.Ytndminmefacmnaa
open Go.RowKit Go.Lib

theorem step_copy (w : World) {ops : Array Oper} {rest : List Oper} {o : Oper} {a : Act} {Q : Exit → Act → World → Prop} (hgd : o.guard = none) (s x : Operand)
    (ho : o.op = .call { callee := .builtin .append, args := #[s, x], argTypes := #[35, 35] }) (base : Nat) (hbase : base ≤ w.heap.size) (g : Nat) (hs : a.eval s = .slice (some ⟨g, 0, none⟩) 0 0) (hg : w.heap[g]? = some (.cells #[] 5 (0, 0))) (hbg : base ≤ g)
    (v : Value) (r : List UInt8) (hx : a.eval x = v) (hv : BytesAt w v r) (hl : r.length ≤ 1000000)
    (h : ∀ v' w', w'.ownsRow base 5 1 v' r.length (bv r) → Below base w w' → wpList Try.prog ops Q rest (a.put o.dst v') w') : wpList Try.prog ops Q (o :: rest) a w := by
  obtain ⟨ao, b, off, cap, rfl, h1, h2, hnil, hao, hc⟩ := hv
  obtain ⟨i0, hi, hz0, hz1, hz2⟩ := info_parts Try.info5
  have hown : w.ownsRow base 5 1 (.slice (some ⟨g, 0, none⟩) 0 0) 0 [] := ⟨by simp, .inr ⟨g, 0, #[], rfl, hbg, hg, Nat.le_refl _, by unfold maxLen; omega, by simp, by simp⟩⟩
  exact wpList_append_own_any w hgd s x 35 ho base 5 i0 (.int .u8 0) 1 1 Try.underlying35 hi hz0 hz1 hz2 rfl (by decide) _ 0 [] hs hown ao r.length cap (bv r) hx (by simp [bv]) hnil (bytes_news hao hc) (bv_oneCell r) (by unfold maxLen; omega) (by omega) hbase
    (fun v' w' ho' hgw => h v' w' (by simpa using ho') ((Below.refl base w).grown hgw hbase (fun k hk => by cases hk; exact hbg)))
set_option maxHeartbeats 2000000 in
theorem rCut_any (fr tz : Int) (v : Value) (t : List UInt8) (w : World) (h : BytesAt w v t) (hl : t.length ≤ 1000000) :
    Calls Try.prog 26 #[v, .agg #[.int .i64 fr, .int .i64 tz]] w fun e w' => CutR w e w' (cutS t ⟨fr, tz⟩) := by
  have H := Lib.hid h
  have HR := Lib.hid (fun u => rRight_any fr tz u)
  have HLl := Lib.hid hl
  obtain ⟨ao, b, off, cap, rfl, hlc, hm, hnil, hao, -⟩ := h
  obtain ⟨n, hn⟩ : ∃ n, n = t.length := ⟨_, rfl⟩
  have HN := Lib.hid hn
  rw [← hn] at hlc hnil hao H hl ⊢
  have hm2 : cap ≤ 9223372036854775807 := by unfold maxLen at hm; omega
  have HNil := Lib.hid hnil
  have HAo := Lib.hid hao
  have HM := Lib.hid hm
  clear hn hnil hao hm
  cases hr : srB fr tz
  · rw [hr] at HR
    have HC := Lib.hid (show cutS t ⟨fr, tz⟩ = none from if_neg (fun h => by rw [← srB_eq, hr] at h; exact absurd h.1 (by simp)))
    clear hr
    go_enter Try.func26, Try.ntmps26
    go_upto_region 1 with (fail)
    obtain ⟨hb0, hx⟩ := one_new w (.cells #[.int .i64 fr, .int .i64 tz] 23 (0, 0))
    refine gen_world (S := fun u => Below w.heap.size w u ∧ u.heap[w.heap.size]? = some (.cells #[.int .i64 fr, .int .i64 tz] 23 (0, 0))) ⟨hb0, hx⟩ (fun u hu => ?_)
    obtain ⟨hbu, hxu⟩ := hu
    have HX := Lib.hid hxu
    have HB := Lib.hid hbu
    obtain ⟨x0, x1⟩ := two_box hxu
    obtain ⟨X, hX⟩ : ∃ X, X = w.heap.size := ⟨_, rfl⟩
    rw [← hX] at x0 x1 HX ⊢
    clear hb0 hx hbu hxu hX
    go_wp2_with fail
    refine (HR.out _).mono ?_
    rintro e u2 ⟨rfl, hb⟩
    have hx2 := (hb.block _ (lt_of_block HX.out)).trans HX.out
    clear x0 x1
    obtain ⟨x0, x1⟩ := two_box hx2
    replace HB := Lib.hid (HB.out.trans (hb.mono HB.out.size))
    clear hb HX
    go_wp2
    refine bodyPost_ret (v := .tuple #[.slice none 0 0, .int .i64 6]) (by simp [results, Try.f26, go_sem]) rfl ?_
    rw [HC.out]
    exact ⟨rfl, HB.out⟩
  · rw [hr] at HR
    have h2 : 0 ≤ fr ∧ fr ≤ tz := by simpa [srB] using hr
    obtain ⟨i, rfl⟩ : ∃ i : Nat, fr = i := ⟨fr.toNat, by omega⟩
    obtain ⟨j, rfl⟩ : ∃ j : Nat, tz = j := ⟨tz.toNat, by omega⟩
    have hij : i ≤ j := by omega
    have HRr := Lib.hid (show rightS ⟨i, j⟩ = true from hr)
    clear hr h2
    by_cases hjn : n < j
    · have hjn' : (n : Int) < (j : Int) := by omega
      have HC := Lib.hid (show cutS t ⟨i, j⟩ = none from if_neg (fun h => by have := h.2; simp only at this; rw [← HN.out] at this; omega))
      go_enter Try.func26, Try.ntmps26
      go_upto_region 1 with (fail)
      obtain ⟨hb0, hx⟩ := one_new w (.cells #[.int .i64 (i : Int), .int .i64 (j : Int)] 23 (0, 0))
      refine gen_world (S := fun u => Below w.heap.size w u ∧ u.heap[w.heap.size]? = some (.cells #[.int .i64 (i : Int), .int .i64 (j : Int)] 23 (0, 0))) ⟨hb0, hx⟩ (fun u hu => ?_)
      obtain ⟨hbu, hxu⟩ := hu
      have HX := Lib.hid hxu
      have HB := Lib.hid hbu
      obtain ⟨x0, x1⟩ := two_box hxu
      obtain ⟨X, hX⟩ : ∃ X, X = w.heap.size := ⟨_, rfl⟩
      rw [← hX] at x0 x1 HX ⊢
      clear hb0 hx hbu hxu hX
      go_wp2_with fail
      refine (HR.out _).mono ?_
      rintro e u2 ⟨rfl, hb⟩
      have hx2 := (hb.block _ (lt_of_block HX.out)).trans HX.out
      clear x0 x1
      obtain ⟨x0, x1⟩ := two_box hx2
      replace HB := Lib.hid (HB.out.trans (hb.mono HB.out.size))
      clear hb HX
      go_wp2
      refine bodyPost_ret (v := .tuple #[.slice none 0 0, .int .i64 6]) (by simp [results, Try.f26, go_sem]) rfl ?_
      rw [HC.out]
      exact ⟨rfl, HB.out⟩
    · have hjn' : ¬ (n : Int) < (j : Int) := by omega
      have HC := Lib.hid (show cutS t ⟨i, j⟩ = some ((t.drop i).take (j - i)) from if_pos ⟨HRr.out, by simp only; rw [← HN.out]; omega⟩)
      have g1 : (i : Int) ≤ j := by omega
      have g2 : (j : Int) ≤ n := by omega
      have g3 : (j : Int) ≤ cap := by omega
      have g4 : j ≤ cap := by omega
      by_cases hn0 : n = 0
      · have HE := Lib.hid (show (t.drop i).take (j - i) = [] from by rw [show j - i = 0 from by omega]; rfl)
        have HI := Lib.hid (show i = 0 ∧ j = 0 from by omega)
        obtain ⟨hi0, hj0⟩ := HI.out
        subst hi0
        subst hj0
        subst hn0
        cases ao with
        | none =>
          obtain rfl : cap = 0 := (HNil.out rfl).2
          have HBe := Lib.hid (fun u => bytes_nil u)
          go_enter Try.func26, Try.ntmps26
          go_upto_region 1 with (fail)
          obtain ⟨hb0, hx⟩ := one_new w (.cells #[.int .i64 ((0 : Nat) : Int), .int .i64 ((0 : Nat) : Int)] 23 (0, 0))
          refine gen_world (S := fun u => Below w.heap.size w u ∧ u.heap[w.heap.size]? = some (.cells #[.int .i64 ((0 : Nat) : Int), .int .i64 ((0 : Nat) : Int)] 23 (0, 0))) ⟨hb0, hx⟩ (fun u hu => ?_)
          obtain ⟨hbu, hxu⟩ := hu
          have HX := Lib.hid hxu
          have HB := Lib.hid hbu
          obtain ⟨x0, x1⟩ := two_box hxu
          obtain ⟨X, hX⟩ : ∃ X, X = w.heap.size := ⟨_, rfl⟩
          rw [← hX] at x0 x1 HX ⊢
          clear hb0 hx hbu hxu hX
          go_wp2_with fail
          refine (HR.out _).mono ?_
          rintro e u2 ⟨rfl, hb⟩
          have hx2 := (hb.block _ (lt_of_block HX.out)).trans HX.out
          clear x0 x1
          obtain ⟨x0, x1⟩ := two_box hx2
          replace HB := Lib.hid (HB.out.trans (hb.mono HB.out.size))
          clear hb HX
          go_upto_region 3 with (fail)
          have hx3 := hx2
          clear hx2
          have hal := one_new u2 (.cells #[] 5 (0, 0))
          have HBa := Lib.hid (HB.out.trans (hal.1.mono HB.out.size))
          have HGa := Lib.hid hal.2
          have HSz := Lib.hid HB.out.size
          obtain ⟨y0, y1⟩ := two_box ((hal.1.block _ (lt_of_block hx3)).trans hx3)
          clear hal x0 x1 hx3
          go_wp2_with (at_builtin; refine step_copy _ rfl _ _ rfl w.heap.size HBa.out.size _ rfl HGa.out HSz.out _ [] rfl (HBe.out _) (by simp) ?_; intro v' u3 ho hb3)
          have HB3 := Lib.hid (HBa.out.trans hb3)
          have HO3 := Lib.hid ho
          clear hb3 ho
          go_wp2
          refine bodyPost_ret (v := .tuple #[v', .int .i64 0]) (by simp [results, Try.f26, go_sem]) rfl ?_
          rw [HC.out, HE.out]
          exact ⟨⟨_, rfl, HO3.out⟩, HB3.out⟩
        | some ad =>
          by_cases hc0 : cap = 0
          · subst hc0
            have HBe := Lib.hid (fun (u : World) (X : Addr) => bytes_empty u (some X) 0 (by unfold maxLen; omega) (fun h => by cases h))
            go_enter Try.func26, Try.ntmps26
            go_upto_region 1 with (fail)
            obtain ⟨hb0, hx⟩ := one_new w (.cells #[.int .i64 ((0 : Nat) : Int), .int .i64 ((0 : Nat) : Int)] 23 (0, 0))
            refine gen_world (S := fun u => Below w.heap.size w u ∧ u.heap[w.heap.size]? = some (.cells #[.int .i64 ((0 : Nat) : Int), .int .i64 ((0 : Nat) : Int)] 23 (0, 0))) ⟨hb0, hx⟩ (fun u hu => ?_)
            obtain ⟨hbu, hxu⟩ := hu
            have HX := Lib.hid hxu
            have HB := Lib.hid hbu
            obtain ⟨x0, x1⟩ := two_box hxu
            obtain ⟨X, hX⟩ : ∃ X, X = w.heap.size := ⟨_, rfl⟩
            rw [← hX] at x0 x1 HX ⊢
            clear hb0 hx hbu hxu hX
            go_wp2_with fail
            refine (HR.out _).mono ?_
            rintro e u2 ⟨rfl, hb⟩
            have hx2 := (hb.block _ (lt_of_block HX.out)).trans HX.out
            clear x0 x1
            obtain ⟨x0, x1⟩ := two_box hx2
            replace HB := Lib.hid (HB.out.trans (hb.mono HB.out.size))
            clear hb HX
            go_upto_region 3 with (fail)
            have hx3 := hx2
            clear hx2
            have hal := one_new u2 (.cells #[] 5 (0, 0))
            have HBa := Lib.hid (HB.out.trans (hal.1.mono HB.out.size))
            have HGa := Lib.hid hal.2
            have HSz := Lib.hid HB.out.size
            obtain ⟨y0, y1⟩ := two_box ((hal.1.block _ (lt_of_block hx3)).trans hx3)
            clear hal x0 x1 hx3
            go_wp2_with (at_builtin; refine step_copy _ rfl _ _ rfl w.heap.size HBa.out.size _ rfl HGa.out HSz.out _ [] rfl (HBe.out _ _) (by simp) ?_; intro v' u3 ho hb3)
            have HB3 := Lib.hid (HBa.out.trans hb3)
            have HO3 := Lib.hid ho
            clear hb3 ho
            go_wp2
            refine bodyPost_ret (v := .tuple #[v', .int .i64 0]) (by simp [results, Try.f26, go_sem]) rfl ?_
            rw [HC.out, HE.out]
            exact ⟨⟨_, rfl, HO3.out⟩, HB3.out⟩
          · have hc0' : ¬ cap = 0 := hc0
            have HBe := Lib.hid (fun (u : World) (X : Addr) => bytes_empty u (some X) cap HM.out (fun h => by cases h))
            go_enter Try.func26, Try.ntmps26
            go_upto_region 1 with (fail)
            obtain ⟨hb0, hx⟩ := one_new w (.cells #[.int .i64 ((0 : Nat) : Int), .int .i64 ((0 : Nat) : Int)] 23 (0, 0))
            refine gen_world (S := fun u => Below w.heap.size w u ∧ u.heap[w.heap.size]? = some (.cells #[.int .i64 ((0 : Nat) : Int), .int .i64 ((0 : Nat) : Int)] 23 (0, 0))) ⟨hb0, hx⟩ (fun u hu => ?_)
            obtain ⟨hbu, hxu⟩ := hu
            have HX := Lib.hid hxu
            have HB := Lib.hid hbu
            obtain ⟨x0, x1⟩ := two_box hxu
            obtain ⟨X, hX⟩ : ∃ X, X = w.heap.size := ⟨_, rfl⟩
            rw [← hX] at x0 x1 HX ⊢
            clear hb0 hx hbu hxu hX
            go_wp2_with fail
            refine (HR.out _).mono ?_
            rintro e u2 ⟨rfl, hb⟩
            have hx2 := (hb.block _ (lt_of_block HX.out)).trans HX.out
            clear x0 x1
            obtain ⟨x0, x1⟩ := two_box hx2
            replace HB := Lib.hid (HB.out.trans (hb.mono HB.out.size))
            clear hb HX
            go_upto_region 3 with (fail)
            have hx3 := hx2
            clear hx2
            have hal := one_new u2 (.cells #[] 5 (0, 0))
            have HBa := Lib.hid (HB.out.trans (hal.1.mono HB.out.size))
            have HGa := Lib.hid hal.2
            have HSz := Lib.hid HB.out.size
            obtain ⟨y0, y1⟩ := two_box ((hal.1.block _ (lt_of_block hx3)).trans hx3)
            clear hal x0 x1 hx3
            go_wp2_with (at_builtin; refine step_copy _ rfl _ _ rfl w.heap.size HBa.out.size _ rfl HGa.out HSz.out _ [] rfl (HBe.out _ _) (by simp) ?_; intro v' u3 ho hb3)
            have HB3 := Lib.hid (HBa.out.trans hb3)
            have HO3 := Lib.hid ho
            clear hb3 ho
            go_wp2
            refine bodyPost_ret (v := .tuple #[v', .int .i64 0]) (by simp [results, Try.f26, go_sem]) rfl ?_
            rw [HC.out, HE.out]
            exact ⟨⟨_, rfl, HO3.out⟩, HB3.out⟩
      · obtain rfl : ao = some ⟨b, off, none⟩ := HAo.out (by omega)
        by_cases hci : cap = i
        · have HE := Lib.hid (show (t.drop i).take (j - i) = [] from by rw [show j - i = 0 from by omega]; rfl)
          have hji : j - i = 0 := by omega
          have hci2 : cap - i = 0 := by omega
          have HBe := Lib.hid (fun (u : World) (X : Addr) => bytes_empty u (some X) 0 (by unfold maxLen; omega) (fun h => by cases h))
          go_enter Try.func26, Try.ntmps26
          go_upto_region 1 with (fail)
          obtain ⟨hb0, hx⟩ := one_new w (.cells #[.int .i64 (i : Int), .int .i64 (j : Int)] 23 (0, 0))
          refine gen_world (S := fun u => Below w.heap.size w u ∧ u.heap[w.heap.size]? = some (.cells #[.int .i64 (i : Int), .int .i64 (j : Int)] 23 (0, 0))) ⟨hb0, hx⟩ (fun u hu => ?_)
          obtain ⟨hbu, hxu⟩ := hu
          have HX := Lib.hid hxu
          have HB := Lib.hid hbu
          obtain ⟨x0, x1⟩ := two_box hxu
          obtain ⟨X, hX⟩ : ∃ X, X = w.heap.size := ⟨_, rfl⟩
          rw [← hX] at x0 x1 HX ⊢
          clear hb0 hx hbu hxu hX
          go_wp2_with fail
          refine (HR.out _).mono ?_
          rintro e u2 ⟨rfl, hb⟩
          have hx2 := (hb.block _ (lt_of_block HX.out)).trans HX.out
          clear x0 x1
          obtain ⟨x0, x1⟩ := two_box hx2
          replace HB := Lib.hid (HB.out.trans (hb.mono HB.out.size))
          clear hb HX
          go_upto_region 3 with (fail)
          have hx3 := hx2
          clear hx2
          have hal := one_new u2 (.cells #[] 5 (0, 0))
          have HBa := Lib.hid (HB.out.trans (hal.1.mono HB.out.size))
          have HGa := Lib.hid hal.2
          have HSz := Lib.hid HB.out.size
          obtain ⟨y0, y1⟩ := two_box ((hal.1.block _ (lt_of_block hx3)).trans hx3)
          clear hal x0 x1 hx3
          go_wp2_with (at_builtin; refine step_copy _ rfl _ _ rfl w.heap.size HBa.out.size _ rfl HGa.out HSz.out _ [] rfl (HBe.out _ _) (by simp) ?_; intro v' u3 ho hb3)
          have HB3 := Lib.hid (HBa.out.trans hb3)
          have HO3 := Lib.hid ho
          clear hb3 ho
          go_wp2
          refine bodyPost_ret (v := .tuple #[v', .int .i64 0]) (by simp [results, Try.f26, go_sem]) rfl ?_
          rw [HC.out, HE.out]
          exact ⟨⟨_, rfl, HO3.out⟩, HB3.out⟩
        · have hci' : ¬ cap = i := hci
          have HBe := Lib.hid (fun (u : World) (hu : Below w.heap.size w u) => bytes_part (H.out.later hu) hij (by omega) (by omega))
          go_enter Try.func26, Try.ntmps26
          go_upto_region 1 with (fail)
          obtain ⟨hb0, hx⟩ := one_new w (.cells #[.int .i64 (i : Int), .int .i64 (j : Int)] 23 (0, 0))
          refine gen_world (S := fun u => Below w.heap.size w u ∧ u.heap[w.heap.size]? = some (.cells #[.int .i64 (i : Int), .int .i64 (j : Int)] 23 (0, 0))) ⟨hb0, hx⟩ (fun u hu => ?_)
          obtain ⟨hbu, hxu⟩ := hu
          have HX := Lib.hid hxu
          have HB := Lib.hid hbu
          obtain ⟨x0, x1⟩ := two_box hxu
          obtain ⟨X, hX⟩ : ∃ X, X = w.heap.size := ⟨_, rfl⟩
          rw [← hX] at x0 x1 HX ⊢
          clear hb0 hx hbu hxu hX
          go_wp2_with fail
          refine (HR.out _).mono ?_
          rintro e u2 ⟨rfl, hb⟩
          have hx2 := (hb.block _ (lt_of_block HX.out)).trans HX.out
          clear x0 x1
          obtain ⟨x0, x1⟩ := two_box hx2
          replace HB := Lib.hid (HB.out.trans (hb.mono HB.out.size))
          clear hb HX
          go_upto_region 3 with (fail)
          have hx3 := hx2
          clear hx2
          have hal := one_new u2 (.cells #[] 5 (0, 0))
          have HBa := Lib.hid (HB.out.trans (hal.1.mono HB.out.size))
          have HGa := Lib.hid hal.2
          have HSz := Lib.hid HB.out.size
          obtain ⟨y0, y1⟩ := two_box ((hal.1.block _ (lt_of_block hx3)).trans hx3)
          clear hal x0 x1 hx3
          go_wp2_with (at_builtin; refine step_copy _ rfl _ _ rfl w.heap.size HBa.out.size _ rfl HGa.out HSz.out _ ((t.drop i).take (j - i)) rfl (HBe.out _ HBa.out) (by simp only [List.length_take]; have := HLl.out; omega) ?_; intro v' u3 ho hb3)
          have HB3 := Lib.hid (HBa.out.trans hb3)
          have HO3 := Lib.hid ho
          clear hb3 ho
          go_wp2
          refine bodyPost_ret (v := .tuple #[v', .int .i64 0]) (by simp [results, Try.f26, go_sem]) rfl ?_
          rw [HC.out]
          exact ⟨⟨_, rfl, HO3.out⟩, HB3.out⟩
end Go.Proofs.Ytndminmefacmnaa
