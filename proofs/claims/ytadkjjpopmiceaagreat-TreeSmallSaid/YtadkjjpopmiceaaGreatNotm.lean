import Derived.Test.YtadkjjpopmiceaaGreatTbbm
namespace Go.Proofs.YtadkjjpopmiceaaGreat
open Go.RowKit Go.Lib

/-- no builder. -/
def NoB (w : World) (v : Value) : Prop := v = .pointer none ∨ ∃ b, v = .pointer (some ⟨b, 0, none⟩) ∧ w.heap[b]? = some (.cells #[.pointer none] 109 (0, 0))
theorem NoB.later {w w' : World} {v : Value} (h : NoB w v) (hb : Below w.heap.size w w') : NoB w' v := by
  rcases h with h | ⟨b, h1, h2⟩
  · exact .inl h
  · exact .inr ⟨b, h1, (hb.block b (lt_of_block h2)).trans h2⟩
theorem no_made (v : Value) (w : World) (h : NoB w v) : Calls Tryz.prog 73 #[v] w fun e w' => e = .returned (.bool false) ∧ w = w' := by
  rcases h with rfl | ⟨b, rfl, h⟩
  · go_enter Tryz.func73, Tryz.ntmps73
    go_wp2
    go_ret
    exact ⟨rfl, rfl⟩
  · have c0 := (block_cell' h 0).1
    clear h
    go_enter Tryz.func73, Tryz.ntmps73
    go_wp2
    go_ret
    exact ⟨rfl, rfl⟩
theorem no_put (v : Value) (w : World) (h : NoB w v) : Calls Tryz.prog 35 #[v, .slice none 0 0] w fun e w' => e = .returned (.int .i64 1) ∧ w = w' := by
  have HM := Lib.hid (no_made v w h)
  clear h
  go_enter Tryz.func35, Tryz.ntmps35
  go_wp2_with fail
  refine HM.out.mono ?_
  rintro e w' ⟨rfl, rfl⟩
  go_wp2
  go_ret
  exact ⟨rfl, rfl⟩
theorem no_wrap (v : Value) (n r l f t : Int) (w : World) (h : NoB w v) : Calls Tryz.prog 37 #[v, .int .i64 n, .int .i64 r, .int .i64 l, .agg #[.int .i64 f, .int .i64 t]] w fun e w' => e = .returned (.int .i64 1) ∧ Below w.heap.size w w' := by
  have HM := Lib.hid (fun u hu => no_made v u (h.later hu))
  clear h
  go_enter Tryz.func37, Tryz.ntmps37
  go_wp2_with fail
  refine (HM.out _ ?_).mono ?_
  · exact (one_new w _).1
  rintro e w' ⟨rfl, rfl⟩
  go_wp2
  go_ret
  exact ⟨rfl, (one_new w _).1⟩
theorem no_back (v : Value) (n : Int) (w : World) (h : NoB w v) : Calls Tryz.prog 39 #[v, .int .i64 n] w fun e w' => e = .returned (.int .i64 1) ∧ w = w' := by
  have HM := Lib.hid (no_made v w h)
  clear h
  go_enter Tryz.func39, Tryz.ntmps39
  go_wp2_with fail
  refine HM.out.mono ?_
  rintro e w' ⟨rfl, rfl⟩
  go_wp2
  go_ret
  exact ⟨rfl, rfl⟩
theorem no_since (v : Value) (n : Int) (w : World) (h : NoB w v) : Calls Tryz.prog 38 #[v, .int .i64 n] w fun e w' => e = .returned (.tuple #[.slice none 0 0, .int .i64 1]) ∧ w = w' := by
  have HM := Lib.hid (no_made v w h)
  clear h
  go_enter Tryz.func38, Tryz.ntmps38
  go_wp2_with fail
  refine HM.out.mono ?_
  rintro e w' ⟨rfl, rfl⟩
  go_wp2
  exact bodyPost_ret (v := .tuple #[.slice none 0 0, .int .i64 1]) (by simp [results, Tryz.f38, go_sem]) rfl ⟨rfl, rfl⟩
theorem no_told (v f : Value) (w : World) (h : NoB w v) : Calls Tryz.prog 76 #[v, f] w fun e w' => e = .returned (.int .i64 0) ∧ w = w' := by
  have HM := Lib.hid (no_made v w h)
  clear h
  go_enter Tryz.func76, Tryz.ntmps76
  go_wp2_with fail
  refine HM.out.mono ?_
  rintro e w' ⟨rfl, rfl⟩
  go_wp2
  go_ret
  exact ⟨rfl, rfl⟩
theorem no_mark (v : Value) (w : World) (h : NoB w v) : Calls Tryz.prog 36 #[v] w fun e w' => e = .returned (.int .i64 0) ∧ w = w' := by
  have HM := Lib.hid (fun f => no_told v f w h)
  clear h
  go_enter Tryz.func36, Tryz.ntmps36
  go_wp2_with fail
  refine (HM.out _).mono ?_
  rintro e w' ⟨rfl, rfl⟩
  go_wp2
  go_ret
  exact ⟨rfl, rfl⟩
theorem no_peak (v : Value) (w : World) (h : NoB w v) : Calls Tryz.prog 71 #[v] w fun e w' => e = .returned (.int .i64 0) ∧ w = w' := by
  have HM := Lib.hid (fun f => no_told v f w h)
  clear h
  go_enter Tryz.func71, Tryz.ntmps71
  go_wp2_with fail
  refine (HM.out _).mono ?_
  rintro e w' ⟨rfl, rfl⟩
  go_wp2
  go_ret
  exact ⟨rfl, rfl⟩
set_option maxRecDepth 100000 in
set_option maxHeartbeats 4000000 in
theorem nobuilder_any (w : World) : Calls Tryz.prog 33 #[] w fun e w' => e = .returned (.bool true) ∧ Below w.heap.size w w' := by
  go_enter Tryz.func33, Tryz.ntmps33
  go_upto_region 2 with (fail)
  obtain ⟨hb1, hx⟩ := one_new w (.cells #[.pointer none] 109 (0, 0))
  obtain ⟨hb2, hy⟩ := one_new (w.alloc (.cells #[.pointer none] 109 (0, 0))) (.cells #[.pointer none, .pointer (some ⟨w.heap.size, 0, none⟩)] 52 (0, 0))
  have hx2 := (hb2.block _ (lt_of_block hx)).trans hx
  have e1 : (w.alloc (.cells #[.pointer none] 109 (0, 0))).heap.size = w.heap.size + 1 := by simp
  have hab := hb1.trans (hb2.mono (by omega))
  rw [e1] at hy
  refine gen_world (S := fun u => Below w.heap.size w u ∧ u.heap[w.heap.size]? = some (.cells #[.pointer none] 109 (0, 0)) ∧ u.heap[w.heap.size + 1]? = some (.cells #[.pointer none, .pointer (some ⟨w.heap.size, 0, none⟩)] 52 (0, 0))) ⟨hab, hx2, hy⟩ (fun u hu => ?_)
  obtain ⟨hbu, hxu, hyu⟩ := hu
  have HB := Lib.hid hbu
  have HX := Lib.hid hxu
  have HY := Lib.hid hyu
  obtain ⟨A, hA⟩ : ∃ A, A = w.heap.size := ⟨_, rfl⟩
  rw [← hA] at HX HY ⊢
  obtain ⟨B, hB⟩ : ∃ B, B = A + 1 := ⟨_, rfl⟩
  rw [← hB] at HY ⊢
  clear hA hB hb1 hb2 hx hy hx2 e1 hab hbu hxu hyu
  go_wp2
  go_loopw [2] (fun i wr => ∃ k : Nat, k ≤ 2 ∧ i = .int .i64 k ∧ Hid (Below w.heap.size w wr) ∧ Hid (wr.heap[A]? = some (.cells #[.pointer none] 109 (0, 0))) ∧ Hid (wr.heap[B]? = some (.cells #[.pointer none, .pointer (some ⟨A, 0, none⟩)] 52 (0, 0)))) (fun i _ => 2 - (intOf i).toNat)
  case atStart => exact ⟨0, by omega, rfl, HB, HX, HY⟩
  case round =>
    clear HB HX HY
    obtain ⟨k, hk, rfl, HB, HX, HY⟩ := hrel
    by_cases hlt : k < 2
    · have hlt' : (k : Int) < 2 := by omega
      obtain ⟨v, hv, hno⟩ : ∃ v, wr.cell? ⟨B, k, none⟩ = some v ∧ NoB wr v := by
        match k, hlt with
        | 0, _ => exact ⟨_, (block_cell' HY.out 0).1, .inl rfl⟩
        | 1, _ => exact ⟨_, (block_cell' HY.out 1).1, .inr ⟨A, rfl, HX.out⟩⟩
      have HNo := Lib.hid hno
      clear hno
      have h1 := Lib.hid (no_since v 0 wr HNo.out)
      go_wp2_with fail
      refine h1.out.mono ?_
      rintro e w1 ⟨rfl, rfl⟩
      have h2 := Lib.hid (no_put v wr HNo.out)
      go_wp2_with fail
      refine h2.out.mono ?_
      rintro e w1 ⟨rfl, rfl⟩
      have h3 := Lib.hid (no_wrap v 0 0 0 0 0 wr HNo.out)
      go_wp2_with fail
      refine h3.out.mono ?_
      rintro e w1 ⟨rfl, hb⟩
      have HN1 := Lib.hid (HNo.out.later hb)
      have HB1 := Lib.hid (HB.out.trans (hb.mono HB.out.size))
      have HX1 := Lib.hid ((hb.block _ (lt_of_block HX.out)).trans HX.out)
      have HY1 := Lib.hid ((hb.block _ (lt_of_block HY.out)).trans HY.out)
      clear hb hv
      have h4 := Lib.hid (no_back v 0 w1 HN1.out)
      go_wp2_with fail
      refine h4.out.mono ?_
      rintro e w2 ⟨rfl, rfl⟩
      have h5 := Lib.hid (no_mark v w1 HN1.out)
      go_wp2_with fail
      refine h5.out.mono ?_
      rintro e w2 ⟨rfl, rfl⟩
      have h6 := Lib.hid (no_peak v w1 HN1.out)
      go_wp2_with fail
      refine h6.out.mono ?_
      rintro e w2 ⟨rfl, rfl⟩
      go_wp2
      go_roundw
      case rel => exact ⟨k + 1, by omega, by go_num, HB1, HX1, HY1⟩
      case measure => simp [intOf]; omega
    · have hlt' : ¬ (k : Int) < 2 := by omega
      go_wp2
      go_ret
      exact ⟨rfl, HB.out⟩
end Go.Proofs.YtadkjjpopmiceaaGreat
