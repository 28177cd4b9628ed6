/-
  slices.ContainsFunc of the stack.
-/
import Derived.Test.YtkimkghldilliaaGreatTrE
namespace Go.Proofs.YtkimkghldilliaaGreat
open Go.RowKit Go.Lib

theorem notDone_any (o : Op) (w : World) : Calls Tryz.prog 118 #[opv o] w fun e w' => e = .returned (.bool (!(o.left == 0))) ∧ Below w.heap.size w w' := by
  have HD := Lib.hid (fun u => done_any o u)
  unfold opv at HD ⊢
  go_enter Tryz.func118, Tryz.ntmps118
  go_wp2_with (go_at_call 115; refine (HD.out _).mono ?_; rintro e w' ⟨rfl, hb⟩)
  go_ret
  exact ⟨rfl, ((Below.refl _ _).alloc (Nat.le_refl _) _).trans (hb.mono (by simp))⟩
def IdxR (E : List Op) (e : Ending) : Prop := ∃ r : Int, e = .returned (.int .i64 r) ∧ ((E.all (fun o => o.left == 0) = true ∧ r = -1) ∨ (E.all (fun o => o.left == 0) = false ∧ 0 ≤ r))
set_option maxRecDepth 100000 in
set_option maxHeartbeats 1000000 in
theorem idxf_any (v : Value) (E : List Op) (w : World) (h : RowsAt w 4 v (E.map opc)) :
    Calls Tryz.prog 148 #[v, .func (.func 118) #[] #[]] w fun e w' => IdxR E e ∧ Below w.heap.size w w' := by
  have H := Lib.hid h
  obtain ⟨ao, b, off, cap, rfl, hl, hm, hn, ha, he, hc⟩ := h
  simp only [List.length_map] at hl ha hn hc ⊢
  have HA := Lib.hid ha
  obtain ⟨n, hnn⟩ : ∃ n, n = E.length := ⟨_, rfl⟩
  have HN := Lib.hid hnn
  unfold maxLen at hm
  have HC := Lib.hid hc
  rw [← hnn] at hl ⊢
  clear hn he ha hc hnn
  go_enter Tryz.func148, Tryz.ntmps148
  go_wp2
  go_loopw [8] (fun i wr => ∃ k : Nat, k ≤ n ∧ i = .int .i64 k ∧ Below w.heap.size w wr ∧ Hid ((E.take k).all (fun o => o.left == 0) = true)) (fun i _ => n - (intOf i).toNat)
  case atStart => exact ⟨0, Nat.zero_le _, rfl, Below.refl _ _, Lib.hid (by simp)⟩
  case round =>
    obtain ⟨k, hk, rfl, hbel, HT⟩ := hrel
    by_cases hlt : k < n
    · have hlt2 : (k : Int) < n := by omega
      have hkE : k < E.length := by rw [← HN.out]; exact hlt
      obtain ⟨hao, hbw⟩ := HA.out (by omega)
      have hc := HC.out k hkE
      obtain ⟨o, ho⟩ : ∃ o, o = E[k] := ⟨_, rfl⟩
      simp only [List.getElem_map, ← ho] at hc
      have c0 := (hbel.cell (p := ⟨b, _, none⟩) hbw).trans (hc 0 (by omega))
      have c1 := (hbel.cell (p := ⟨b, _, none⟩) hbw).trans (hc 1 (by omega))
      have c2 := (hbel.cell (p := ⟨b, _, none⟩) hbw).trans (hc 2 (by omega))
      have c3 := (hbel.cell (p := ⟨b, _, none⟩) hbw).trans (hc 3 (by omega))
      simp only [opc, List.getElem?_cons_zero, List.getElem?_cons_succ, Nat.add_zero] at c0 c1 c2 c3
      have HO := Lib.hid ho
      have HB := Lib.hid hbel
      have ND := Lib.hid (fun u => notDone_any o u)
      unfold opv at ND
      subst hao
      clear ho hc hbel
      go_wp2_with fail
      refine (ND.out _).mono ?_
      rintro e wd ⟨rfl, hbd⟩
      have HBd := Lib.hid (HB.out.trans (hbd.mono HB.out.size))
      clear hbd
      by_cases h0 : o.left = 0
      · have hq : (o.left == 0) = true := by simp [h0]
        have H0 := Lib.hid h0
        clear h0
        go_wp2
        go_roundw
        case rel => exact ⟨k + 1, by omega, by go_num, HBd.out, Lib.hid (by rw [List.take_succ_eq_append_getElem hkE, List.all_append, HT.out, ← HO.out]; simp [H0.out])⟩
        case measure => simp [intOf]; omega
      · have hq : (o.left == 0) = false := by simp [h0]
        have H0 := Lib.hid h0
        clear h0
        go_wp2
        go_ret
        refine ⟨⟨k, rfl, .inr ⟨?_, by omega⟩⟩, HBd.out⟩
        rw [List.all_eq_false]
        exact ⟨o, by rw [HO.out]; exact List.getElem_mem _, by simp [H0.out]⟩
    · have hlt2 : ¬ (k : Int) < n := by omega
      go_wp2
      go_ret
      refine ⟨⟨-1, rfl, .inl ⟨?_, rfl⟩⟩, hbel⟩
      have := HT.out
      rwa [List.take_of_length_le (by rw [← HN.out]; omega)] at this
theorem containsf_any (v : Value) (E : List Op) (w : World) (h : RowsAt w 4 v (E.map opc)) :
    Calls Tryz.prog 117 #[v, .func (.func 118) #[] #[]] w fun e w' => e = .returned (.bool (!(E.all fun o => o.left == 0))) ∧ Below w.heap.size w w' := by
  have HI := Lib.hid (idxf_any v E w h)
  clear h
  go_enter Tryz.func117, Tryz.ntmps117
  go_wp2_with fail
  refine HI.out.mono ?_
  rintro e w' ⟨⟨r, rfl, hr⟩, hb⟩
  have HR := Lib.hid hr
  clear hr
  rcases HR.out with ⟨h1, rfl⟩ | ⟨h1, h2⟩
  · have H1 := Lib.hid h1
    clear h1
    go_wp2
    go_ret
    exact ⟨ret_bool (by rw [H1.out]; rfl), hb⟩
  · have H1 := Lib.hid h1
    clear h1
    go_wp2
    go_ret
    exact ⟨ret_bool (by rw [H1.out]; simp), hb⟩
end Go.Proofs.YtkimkghldilliaaGreat
