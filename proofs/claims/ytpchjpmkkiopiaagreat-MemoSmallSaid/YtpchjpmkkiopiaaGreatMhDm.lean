import Derived.Test.YtpchjpmkkiopiaaGreatMdGm
namespace Go.Proofs.YtpchjpmkkiopiaaGreat
open Go.RowKit Go.Lib

def twv (t : Tw) : Value := .agg #[.int .i64 t.rule, .int .i64 t.lev, .int .i64 t.fr, .int .i64 t.to, .int .i64 t.kids]

set_option maxRecDepth 100000 in
set_option maxHeartbeats 1000000 in
theorem sameTwigs_any (v v' : Value) (t : List Tw) (w : World) (h : TwAt w v t) (h' : TwAt w v' t) :
    Calls Tryz.prog 62 #[v, v'] w fun e w' => e = .returned (.bool true) ∧ Below w.heap.size w w' := by
  have H := Lib.hid h
  have H' := Lib.hid h'
  obtain ⟨ao, cap, rfl⟩ := h.val
  obtain ⟨ao', cap', rfl⟩ := h'.val
  have hm := h.cells.2.2.1
  have hlc := h.cells.2.1
  have hlc' := h'.cells.2.1
  clear h h'
  obtain ⟨n, hn⟩ : ∃ n, n = t.length := ⟨_, rfl⟩
  have Hn := Lib.hid hn
  rw [← hn] at hlc hlc' H H' ⊢
  have hn2 : n ≤ 9223372036854775807 := by unfold maxLen at hm; omega
  clear hn hm
  go_enter Tryz.func62, Tryz.ntmps62
  go_wp2
  go_loopw [5] (fun i wr => ∃ k : Nat, k ≤ n ∧ i = .int .i64 k ∧ Below w.heap.size w wr) (fun i _ => n - (intOf i).toNat)
  case atStart => exact ⟨0, by omega, rfl, Below.refl _ _⟩
  case round =>
    obtain ⟨k, hk, rfl, hbel⟩ := hrel
    by_cases hlt : k < n
    · have hlt' : (k : Int) < n := by omega
      obtain ⟨b, off, rfl, -, e0, e1, e2, e3, e4⟩ := (H.out.later hbel).cells.2.2.2.2 k (by rw [← Hn.out]; exact hlt)
      obtain ⟨b', off', rfl, -, g0, g1, g2, g3, g4⟩ := (H'.out.later hbel).cells.2.2.2.2 k (by rw [← Hn.out]; exact hlt)
      obtain ⟨x, hx⟩ : ∃ x, x = t[k]'(by rw [← Hn.out]; exact hlt) := ⟨_, rfl⟩
      rw [← hx] at e0 e1 e2 e3 e4 g0 g1 g2 g3 g4
      clear hx
      obtain ⟨x0, x1, x2, x3, x4⟩ := x
      simp only at e0 e1 e2 e3 e4 g0 g1 g2 g3 g4
      go_wp2_with fail
      go_quiet (fail)
      go_wp2
      go_roundw
      case rel => exact ⟨k + 1, by omega, by go_num, below_draws hbel _⟩
      case measure => simp [intOf]; omega
    · have hlt' : ¬ (k : Int) < n := by omega
      go_wp2
      go_ret
      exact ⟨rfl, hbel⟩

set_option maxRecDepth 100000 in
set_option maxHeartbeats 2000000 in
theorem keptTwigs_any (v : Value) (t : List Tw) (g : Nat) (w : World) (h : TwAt w v t) (hL : TLentAt w g t) (hl : t.length ≤ 1000000) :
    Calls Tryz.prog 40 #[.slice (some ⟨g, 0, none⟩) t.length (t.length + 12), v] w fun e w' => e = .returned (.bool true) ∧ Below w.heap.size w w' := by
  have H := Lib.hid h
  have HL := Lib.hid hL
  obtain ⟨ao, cap, rfl⟩ := h.val
  have hlc := h.cells.2.1
  clear h hL
  obtain ⟨n, hn⟩ : ∃ n, n = t.length := ⟨_, rfl⟩
  have Hn := Lib.hid hn
  rw [← hn] at hl hlc H ⊢
  clear hn
  go_enter Tryz.func40, Tryz.ntmps40
  go_wp2
  go_loopw [6] (fun i wr => ∃ k : Nat, k ≤ n + 12 ∧ i = .int .i64 k ∧ Below w.heap.size w wr) (fun i _ => n + 12 - (intOf i).toNat)
  case atStart => exact ⟨0, by omega, rfl, Below.refl _ _⟩
  case round =>
    obtain ⟨k, hk, rfl, hbel⟩ := hrel
    by_cases hlt : k < n + 12
    · have hlt' : (k : Int) < n + 12 := by omega
      have hg := fun c hc => (HL.out.later hbel).cell k (by rw [← Hn.out]; exact hlt) c hc
      by_cases hkn : k < n
      · obtain ⟨b, off, rfl, -, e0, e1, e2, e3, e4⟩ := (H.out.later hbel).cells.2.2.2.2 k (by rw [← Hn.out]; exact hkn)
        have he : (tmk t 12)[k]'(by rw [tmk_len, ← Hn.out]; exact hlt) = t[k]'(by rw [← Hn.out]; exact hkn) := by
          simp only [tmk]; rw [List.getElem_append_left]
        rw [he] at hg
        clear he
        obtain ⟨x, hx⟩ : ∃ x, x = t[k]'(by rw [← Hn.out]; exact hkn) := ⟨_, rfl⟩
        rw [← hx] at hg e0 e1 e2 e3 e4
        clear hx
        obtain ⟨x0, x1, x2, x3, x4⟩ := x
        simp only at e0 e1 e2 e3 e4
        have g0 : wr.cell? ⟨g, k * 5, none⟩ = some (.int .i64 x0) := hg 0 (by omega)
        have g1 : wr.cell? ⟨g, k * 5 + 1, none⟩ = some (.int .i64 x1) := hg 1 (by omega)
        have g2 : wr.cell? ⟨g, k * 5 + 2, none⟩ = some (.int .i64 x2) := hg 2 (by omega)
        have g3 : wr.cell? ⟨g, k * 5 + 3, none⟩ = some (.int .i64 x3) := hg 3 (by omega)
        have g4 : wr.cell? ⟨g, k * 5 + 4, none⟩ = some (.int .i64 x4) := hg 4 (by omega)
        clear hg
        have hkn' : (k : Int) < n := by omega
        have hnge : decide (n ≤ k) = false := by simp; omega
        go_wp2_with fail
        go_quiet (fail)
        go_wp2
        go_roundw
        case rel => exact ⟨k + 1, by omega, by go_num, below_draws hbel _⟩
        case measure => simp [intOf]; omega
      · have he : (tmk t 12)[k]'(by rw [tmk_len, ← Hn.out]; exact hlt) = ⟨8000024 + ((k : Int) - n), 0, 0, 0, 0⟩ := by
          have hge : t.length ≤ k := by rw [← Hn.out]; omega
          simp only [tmk]; rw [List.getElem_append_right hge]
          simp only [List.getElem_map, List.getElem_range]
          rw [← Hn.out]; congr 1; omega
        rw [he] at hg
        clear he
        have hkn' : ¬ (k : Int) < n := by omega
        have hnge : decide (n ≤ k) = true := by simp; omega
        have hnge1 : decide ((n : Int) ≤ k) = true := by simp; omega
        have hnge2 : decide (k < n) = false := by simp; omega
        have hnge3 : decide ((k : Int) < n) = false := by simp; omega
        have hw1 : IntKind.i64.wrap ((k : Int) - n) = (k : Int) - n := IntWalk.i64_in _ (by omega)
        have h0k : 0 ≤ (k : Int) - n ∧ (k : Int) - n ≤ 4000000 := by omega
        have Hmk := Lib.hid (fun wq => markTwig_any 1 ((k : Int) - n) wq (by omega) h0k)
        simp only [show (1000003 : Int) * (1 + 7) = 8000024 from rfl] at Hmk
        obtain ⟨m, hm⟩ : ∃ m, m = 8000024 + ((k : Int) - n) := ⟨_, rfl⟩
        rw [← hm] at hg Hmk
        clear hm h0k
        have g0 : wr.cell? ⟨g, k * 5, none⟩ = some (.int .i64 m) := hg 0 (by omega)
        have g1 : wr.cell? ⟨g, k * 5 + 1, none⟩ = some (.int .i64 0) := hg 1 (by omega)
        have g2 : wr.cell? ⟨g, k * 5 + 2, none⟩ = some (.int .i64 0) := hg 2 (by omega)
        have g3 : wr.cell? ⟨g, k * 5 + 3, none⟩ = some (.int .i64 0) := hg 3 (by omega)
        have g4 : wr.cell? ⟨g, k * 5 + 4, none⟩ = some (.int .i64 0) := hg 4 (by omega)
        clear hg
        go_wp2_with fail
        refine wp_region_held_drew (S := fun wq => Below wr.heap.size wr wq) (by kernel_rfl) ((Below.refl _ _).drew) (fun hS => ?_)
        refine wpAnyH_take (i := 0) (oi := ⟨_, _, _, _, _, _⟩) (v := ?v1) rfl (by kernel_rfl) (by kernel_rfl) (by kernel_rfl) (fun _ _ _ h => h) ?y1 hS ?_
        case y1 => first | (refine Or.inr ⟨by rfl, ?_⟩; with_reducible rfl) | (refine Or.inl ⟨by rfl, ?_⟩; intro wS hSw; have s0 := cell_later hSw g0; have s1 := cell_later hSw g1; have s2 := cell_later hSw g2; have s3 := cell_later hSw g3; have s4 := cell_later hSw g4; go_simp; try with_reducible rfl)
        simp only [Act.put, List.setIfInBounds_toArray, List.set_cons_zero, List.set_cons_succ]
        refine wpAnyH_take (i := 1) (oi := ⟨_, _, _, _, _, _⟩) (v := ?v2) rfl (by kernel_rfl) (by kernel_rfl) (by kernel_rfl) (fun _ _ _ h => h) ?y2 hS ?_
        case y2 => first | (refine Or.inr ⟨by rfl, ?_⟩; with_reducible rfl) | (refine Or.inl ⟨by rfl, ?_⟩; intro wS hSw; have s0 := cell_later hSw g0; have s1 := cell_later hSw g1; have s2 := cell_later hSw g2; have s3 := cell_later hSw g3; have s4 := cell_later hSw g4; go_simp; try with_reducible rfl)
        simp only [Act.put, List.setIfInBounds_toArray, List.set_cons_zero, List.set_cons_succ]
        refine wpAnyH_take (i := 2) (oi := ⟨_, _, _, _, _, _⟩) (v := ?v3) rfl (by kernel_rfl) (by kernel_rfl) (by kernel_rfl) (fun _ _ _ h => h) ?y3 hS ?_
        case y3 => first | (refine Or.inr ⟨by rfl, ?_⟩; with_reducible rfl) | (refine Or.inl ⟨by rfl, ?_⟩; intro wS hSw; have s0 := cell_later hSw g0; have s1 := cell_later hSw g1; have s2 := cell_later hSw g2; have s3 := cell_later hSw g3; have s4 := cell_later hSw g4; go_simp; try with_reducible rfl)
        simp only [Act.put, List.setIfInBounds_toArray, List.set_cons_zero, List.set_cons_succ]
        refine wpAnyH_take (i := 3) (oi := ⟨_, _, _, _, _, _⟩) (v := ?v4) rfl (by kernel_rfl) (by kernel_rfl) (by kernel_rfl) (fun _ _ _ h => h) ?y4 hS ?_
        case y4 => first | (refine Or.inr ⟨by rfl, ?_⟩; with_reducible rfl) | (refine Or.inl ⟨by rfl, ?_⟩; intro wS hSw; have s0 := cell_later hSw g0; have s1 := cell_later hSw g1; have s2 := cell_later hSw g2; have s3 := cell_later hSw g3; have s4 := cell_later hSw g4; go_simp; try with_reducible rfl)
        simp only [Act.put, List.setIfInBounds_toArray, List.set_cons_zero, List.set_cons_succ]
        refine wpAnyH_take (i := 4) (oi := ⟨_, _, _, _, _, _⟩) (v := ?v5) rfl (by kernel_rfl) (by kernel_rfl) (by kernel_rfl) (fun _ _ _ h => h) ?y5 hS ?_
        case y5 => first | (refine Or.inr ⟨by rfl, ?_⟩; with_reducible rfl) | (refine Or.inl ⟨by rfl, ?_⟩; intro wS hSw; have s0 := cell_later hSw g0; have s1 := cell_later hSw g1; have s2 := cell_later hSw g2; have s3 := cell_later hSw g3; have s4 := cell_later hSw g4; go_simp; try with_reducible rfl)
        simp only [Act.put, List.setIfInBounds_toArray, List.set_cons_zero, List.set_cons_succ]
        refine wpAnyH_take (i := 5) (oi := ⟨_, _, _, _, _, _⟩) (v := ?v6) rfl (by kernel_rfl) (by kernel_rfl) (by kernel_rfl) (fun _ _ _ h => h) ?y6 hS ?_
        case y6 => first | (refine Or.inr ⟨by rfl, ?_⟩; with_reducible rfl) | (refine Or.inl ⟨by rfl, ?_⟩; intro wS hSw; have s0 := cell_later hSw g0; have s1 := cell_later hSw g1; have s2 := cell_later hSw g2; have s3 := cell_later hSw g3; have s4 := cell_later hSw g4; go_simp; try with_reducible rfl)
        simp only [Act.put, List.setIfInBounds_toArray, List.set_cons_zero, List.set_cons_succ]
        refine wpAnyH_take (i := 6) (oi := ⟨_, _, _, _, _, _⟩) (v := ?v7) rfl (by kernel_rfl) (by kernel_rfl) (by kernel_rfl) (fun _ _ _ h => h) ?y7 hS ?_
        case y7 => first | (refine Or.inr ⟨by rfl, ?_⟩; with_reducible rfl) | (refine Or.inl ⟨by rfl, ?_⟩; intro wS hSw; have s0 := cell_later hSw g0; have s1 := cell_later hSw g1; have s2 := cell_later hSw g2; have s3 := cell_later hSw g3; have s4 := cell_later hSw g4; go_simp; try with_reducible rfl)
        simp only [Act.put, List.setIfInBounds_toArray, List.set_cons_zero, List.set_cons_succ]
        refine wpAnyH_take (i := 7) (oi := ⟨_, _, _, _, _, _⟩) (v := ?v8) rfl (by kernel_rfl) (by kernel_rfl) (by kernel_rfl) (fun _ _ _ h => h) ?y8 hS ?_
        case y8 => first | (refine Or.inr ⟨by rfl, ?_⟩; with_reducible rfl) | (refine Or.inl ⟨by rfl, ?_⟩; intro wS hSw; have s0 := cell_later hSw g0; have s1 := cell_later hSw g1; have s2 := cell_later hSw g2; have s3 := cell_later hSw g3; have s4 := cell_later hSw g4; go_simp; try with_reducible rfl)
        simp only [Act.put, List.setIfInBounds_toArray, List.set_cons_zero, List.set_cons_succ]
        refine wpAnyH_take (i := 8) (oi := ⟨_, _, _, _, _, _⟩) (v := ?v9) rfl (by kernel_rfl) (by kernel_rfl) (by kernel_rfl) (fun _ _ _ h => h) ?y9 hS ?_
        case y9 => first | (refine Or.inr ⟨by rfl, ?_⟩; with_reducible rfl) | (refine Or.inl ⟨by rfl, ?_⟩; intro wS hSw; have s0 := cell_later hSw g0; have s1 := cell_later hSw g1; have s2 := cell_later hSw g2; have s3 := cell_later hSw g3; have s4 := cell_later hSw g4; go_simp; try with_reducible rfl)
        simp only [Act.put, List.setIfInBounds_toArray, List.set_cons_zero, List.set_cons_succ]
        refine wpAnyH_take (i := 9) (oi := ⟨_, _, _, _, _, _⟩) (v := ?v10) rfl (by kernel_rfl) (by kernel_rfl) (by kernel_rfl) (fun _ _ _ h => h) ?y10 hS ?_
        case y10 => first | (refine Or.inr ⟨by rfl, ?_⟩; with_reducible rfl) | (refine Or.inl ⟨by rfl, ?_⟩; intro wS hSw; have s0 := cell_later hSw g0; have s1 := cell_later hSw g1; have s2 := cell_later hSw g2; have s3 := cell_later hSw g3; have s4 := cell_later hSw g4; go_simp; try with_reducible rfl)
        simp only [Act.put, List.setIfInBounds_toArray, List.set_cons_zero, List.set_cons_succ]
        refine wpAnyH_take (i := 10) (oi := ⟨_, _, _, _, _, _⟩) (v := ?v11) rfl (by kernel_rfl) (by kernel_rfl) (by kernel_rfl) (fun _ _ _ h => h) ?y11 hS ?_
        case y11 => first | (refine Or.inr ⟨by rfl, ?_⟩; with_reducible rfl) | (refine Or.inl ⟨by rfl, ?_⟩; intro wS hSw; have s0 := cell_later hSw g0; have s1 := cell_later hSw g1; have s2 := cell_later hSw g2; have s3 := cell_later hSw g3; have s4 := cell_later hSw g4; go_simp; try with_reducible rfl)
        simp only [Act.put, List.setIfInBounds_toArray, List.set_cons_zero, List.set_cons_succ]
        refine wpAnyH_take (i := 11) (oi := ⟨_, _, _, _, _, _⟩) (v := ?v12) rfl (by kernel_rfl) (by kernel_rfl) (by kernel_rfl) (fun _ _ _ h => h) ?y12 hS ?_
        case y12 => first | (refine Or.inr ⟨by rfl, ?_⟩; with_reducible rfl) | (refine Or.inl ⟨by rfl, ?_⟩; intro wS hSw; have s0 := cell_later hSw g0; have s1 := cell_later hSw g1; have s2 := cell_later hSw g2; have s3 := cell_later hSw g3; have s4 := cell_later hSw g4; go_simp; try with_reducible rfl)
        simp only [Act.put, List.setIfInBounds_toArray, List.set_cons_zero, List.set_cons_succ]
        refine wpAnyH_take (i := 12) (oi := ⟨_, _, _, _, _, _⟩) (v := ?v13) rfl (by kernel_rfl) (by kernel_rfl) (by kernel_rfl) (fun _ _ _ h => h) ?y13 hS ?_
        case y13 => first | (refine Or.inr ⟨by rfl, ?_⟩; with_reducible rfl) | (refine Or.inl ⟨by rfl, ?_⟩; intro wS hSw; have s0 := cell_later hSw g0; have s1 := cell_later hSw g1; have s2 := cell_later hSw g2; have s3 := cell_later hSw g3; have s4 := cell_later hSw g4; go_simp; try with_reducible rfl)
        simp only [Act.put, List.setIfInBounds_toArray, List.set_cons_zero, List.set_cons_succ]
        refine wpAnyH_take (i := 13) (oi := ⟨_, _, _, _, _, _⟩) (v := ?v14) rfl (by kernel_rfl) (by kernel_rfl) (by kernel_rfl) (fun _ _ _ h => h) ?y14 hS ?_
        case y14 => first | (refine Or.inr ⟨by rfl, ?_⟩; with_reducible rfl) | (refine Or.inl ⟨by rfl, ?_⟩; intro wS hSw; have s0 := cell_later hSw g0; have s1 := cell_later hSw g1; have s2 := cell_later hSw g2; have s3 := cell_later hSw g3; have s4 := cell_later hSw g4; go_simp; try with_reducible rfl)
        simp only [Act.put, List.setIfInBounds_toArray, List.set_cons_zero, List.set_cons_succ]
        refine wpAnyH_take (i := 14) (oi := ⟨_, _, _, _, _, _⟩) (v := ?v15) rfl (by kernel_rfl) (by kernel_rfl) (by kernel_rfl) (fun _ _ _ h => h) ?y15 hS ?_
        case y15 => first | (refine Or.inr ⟨by rfl, ?_⟩; with_reducible rfl) | (refine Or.inl ⟨by rfl, ?_⟩; intro wS hSw; have s0 := cell_later hSw g0; have s1 := cell_later hSw g1; have s2 := cell_later hSw g2; have s3 := cell_later hSw g3; have s4 := cell_later hSw g4; go_simp; try with_reducible rfl)
        simp only [Act.put, List.setIfInBounds_toArray, List.set_cons_zero, List.set_cons_succ]
        refine wpAnyH_take (i := 15) (oi := ⟨_, _, _, _, _, _⟩) (v := ?v16) rfl (by kernel_rfl) (by kernel_rfl) (by kernel_rfl) (fun _ _ _ h => h) ?y16 hS ?_
        case y16 => first | (refine Or.inr ⟨by rfl, ?_⟩; with_reducible rfl) | (refine Or.inl ⟨by rfl, ?_⟩; intro wS hSw; have s0 := cell_later hSw g0; have s1 := cell_later hSw g1; have s2 := cell_later hSw g2; have s3 := cell_later hSw g3; have s4 := cell_later hSw g4; go_simp; try with_reducible rfl)
        simp only [Act.put, List.setIfInBounds_toArray, List.set_cons_zero, List.set_cons_succ]
        refine wpAnyH_take (i := 16) (oi := ⟨_, _, _, _, _, _⟩) (v := ?v17) rfl (by kernel_rfl) (by kernel_rfl) (by kernel_rfl) (fun _ _ _ h => h) ?y17 hS ?_
        case y17 => first | (refine Or.inr ⟨by rfl, ?_⟩; with_reducible rfl) | (refine Or.inl ⟨by rfl, ?_⟩; intro wS hSw; have s0 := cell_later hSw g0; have s1 := cell_later hSw g1; have s2 := cell_later hSw g2; have s3 := cell_later hSw g3; have s4 := cell_later hSw g4; go_simp; try with_reducible rfl)
        simp only [Act.put, List.setIfInBounds_toArray, List.set_cons_zero, List.set_cons_succ]
        refine wpAnyH_take (i := 17) (oi := ⟨_, _, _, _, _, _⟩) (v := ?v18) rfl (by kernel_rfl) (by kernel_rfl) (by kernel_rfl) (fun _ _ _ h => h) ?y18 hS ?_
        case y18 => first | (refine Or.inr ⟨by rfl, ?_⟩; with_reducible rfl) | (refine Or.inl ⟨by rfl, ?_⟩; intro wS hSw; have s0 := cell_later hSw g0; have s1 := cell_later hSw g1; have s2 := cell_later hSw g2; have s3 := cell_later hSw g3; have s4 := cell_later hSw g4; go_simp; try with_reducible rfl)
        simp only [Act.put, List.setIfInBounds_toArray, List.set_cons_zero, List.set_cons_succ]
        refine wpAnyH_take (i := 18) (oi := ⟨_, _, _, _, _, _⟩) (v := ?v19) rfl (by kernel_rfl) (by kernel_rfl) (by kernel_rfl) (fun _ _ _ h => h) ?y19 hS ?_
        case y19 => first | (refine Or.inr ⟨by rfl, ?_⟩; with_reducible rfl) | (refine Or.inl ⟨by rfl, ?_⟩; intro wS hSw; have s0 := cell_later hSw g0; have s1 := cell_later hSw g1; have s2 := cell_later hSw g2; have s3 := cell_later hSw g3; have s4 := cell_later hSw g4; go_simp; try with_reducible rfl)
        simp only [Act.put, List.setIfInBounds_toArray, List.set_cons_zero, List.set_cons_succ]
        refine wpAnyH_take (i := 19) (oi := ⟨_, _, _, _, _, _⟩) (v := ?v20) rfl (by kernel_rfl) (by kernel_rfl) (by kernel_rfl) (fun _ _ _ h => h) ?y20 hS ?_
        case y20 => first | (refine Or.inr ⟨by rfl, ?_⟩; with_reducible rfl) | (refine Or.inl ⟨by rfl, ?_⟩; intro wS hSw; have s0 := cell_later hSw g0; have s1 := cell_later hSw g1; have s2 := cell_later hSw g2; have s3 := cell_later hSw g3; have s4 := cell_later hSw g4; go_simp; try with_reducible rfl)
        simp only [Act.put, List.setIfInBounds_toArray, List.set_cons_zero, List.set_cons_succ]
        refine wpAnyH_take (i := 20) (oi := ⟨_, _, _, _, _, _⟩) (v := ?v21) rfl (by kernel_rfl) (by kernel_rfl) (by kernel_rfl) (fun _ _ _ h => h) ?y21 hS ?_
        case y21 => first | (refine Or.inr ⟨by rfl, ?_⟩; with_reducible rfl) | (refine Or.inl ⟨by rfl, ?_⟩; intro wS hSw; have s0 := cell_later hSw g0; have s1 := cell_later hSw g1; have s2 := cell_later hSw g2; have s3 := cell_later hSw g3; have s4 := cell_later hSw g4; go_simp; try with_reducible rfl)
        simp only [Act.put, List.setIfInBounds_toArray, List.set_cons_zero, List.set_cons_succ]
        refine wpAnyH_take (i := 21) (oi := ⟨_, _, _, _, _, _⟩) (v := ?v22) rfl (by kernel_rfl) (by kernel_rfl) (by kernel_rfl) (fun _ _ _ h => h) ?y22 hS ?_
        case y22 => first | (refine Or.inr ⟨by rfl, ?_⟩; with_reducible rfl) | (refine Or.inl ⟨by rfl, ?_⟩; intro wS hSw; have s0 := cell_later hSw g0; have s1 := cell_later hSw g1; have s2 := cell_later hSw g2; have s3 := cell_later hSw g3; have s4 := cell_later hSw g4; go_simp; try with_reducible rfl)
        simp only [Act.put, List.setIfInBounds_toArray, List.set_cons_zero, List.set_cons_succ]
        refine wpAnyH_take (i := 22) (oi := ⟨_, _, _, _, _, _⟩) (v := ?v23) rfl (by kernel_rfl) (by kernel_rfl) (by kernel_rfl) (fun _ _ _ h => h) ?y23 hS ?_
        case y23 => first | (refine Or.inr ⟨by rfl, ?_⟩; with_reducible rfl) | (refine Or.inl ⟨by rfl, ?_⟩; intro wS hSw; have s0 := cell_later hSw g0; have s1 := cell_later hSw g1; have s2 := cell_later hSw g2; have s3 := cell_later hSw g3; have s4 := cell_later hSw g4; go_simp; try with_reducible rfl)
        simp only [Act.put, List.setIfInBounds_toArray, List.set_cons_zero, List.set_cons_succ]
        refine wpAnyH_take (i := 23) (oi := ⟨_, _, _, _, _, _⟩) (v := ?v24) rfl (by kernel_rfl) (by kernel_rfl) (by kernel_rfl) (fun _ _ _ h => h) ?y24 hS ?_
        case y24 => first | (refine Or.inr ⟨by rfl, ?_⟩; with_reducible rfl) | (refine Or.inl ⟨by rfl, ?_⟩; intro wS hSw; have s0 := cell_later hSw g0; have s1 := cell_later hSw g1; have s2 := cell_later hSw g2; have s3 := cell_later hSw g3; have s4 := cell_later hSw g4; go_simp; try with_reducible rfl)
        simp only [Act.put, List.setIfInBounds_toArray, List.set_cons_zero, List.set_cons_succ]
        refine wpAnyH_take (i := 24) (oi := ⟨_, _, _, _, _, _⟩) (v := ?v25) rfl (by kernel_rfl) (by kernel_rfl) (by kernel_rfl) (fun _ _ _ h => h) ?y25 hS ?_
        case y25 => first | (refine Or.inr ⟨by rfl, ?_⟩; with_reducible rfl) | (refine Or.inl ⟨by rfl, ?_⟩; intro wS hSw; have s0 := cell_later hSw g0; have s1 := cell_later hSw g1; have s2 := cell_later hSw g2; have s3 := cell_later hSw g3; have s4 := cell_later hSw g4; go_simp; try with_reducible rfl)
        simp only [Act.put, List.setIfInBounds_toArray, List.set_cons_zero, List.set_cons_succ]
        refine wpAnyH_take (i := 25) (oi := ⟨_, _, _, _, _, _⟩) (v := ?v26) rfl (by kernel_rfl) (by kernel_rfl) (by kernel_rfl) (fun _ _ _ h => h) ?y26 hS ?_
        case y26 => first | (refine Or.inr ⟨by rfl, ?_⟩; with_reducible rfl) | (refine Or.inl ⟨by rfl, ?_⟩; intro wS hSw; have s0 := cell_later hSw g0; have s1 := cell_later hSw g1; have s2 := cell_later hSw g2; have s3 := cell_later hSw g3; have s4 := cell_later hSw g4; go_simp; try with_reducible rfl)
        simp only [Act.put, List.setIfInBounds_toArray, List.set_cons_zero, List.set_cons_succ]
        refine wpAnyH_take (i := 26) (oi := ⟨_, _, _, _, _, _⟩) (v := ?v27) rfl (by kernel_rfl) (by kernel_rfl) (by kernel_rfl) (fun _ _ _ h => h) ?y27 hS ?_
        case y27 => first | (refine Or.inr ⟨by rfl, ?_⟩; with_reducible rfl) | (refine Or.inl ⟨by rfl, ?_⟩; intro wS hSw; have s0 := cell_later hSw g0; have s1 := cell_later hSw g1; have s2 := cell_later hSw g2; have s3 := cell_later hSw g3; have s4 := cell_later hSw g4; go_simp; try with_reducible rfl)
        simp only [Act.put, List.setIfInBounds_toArray, List.set_cons_zero, List.set_cons_succ]
        refine wpAnyH_take (i := 27) (oi := ⟨_, _, _, _, _, _⟩) (v := ?v28) rfl (by kernel_rfl) (by kernel_rfl) (by kernel_rfl) (fun _ _ _ h => h) ?y28 hS ?_
        case y28 => first | (refine Or.inr ⟨by rfl, ?_⟩; with_reducible rfl) | (refine Or.inl ⟨by rfl, ?_⟩; intro wS hSw; have s0 := cell_later hSw g0; have s1 := cell_later hSw g1; have s2 := cell_later hSw g2; have s3 := cell_later hSw g3; have s4 := cell_later hSw g4; go_simp; try with_reducible rfl)
        simp only [Act.put, List.setIfInBounds_toArray, List.set_cons_zero, List.set_cons_succ]
        refine wpAnyH_take (i := 28) (oi := ⟨_, _, _, _, _, _⟩) (v := ?v29) rfl (by kernel_rfl) (by kernel_rfl) (by kernel_rfl) (fun _ _ _ h => h) ?y29 hS ?_
        case y29 => first | (refine Or.inr ⟨by rfl, ?_⟩; with_reducible rfl) | (refine Or.inl ⟨by rfl, ?_⟩; intro wS hSw; have s0 := cell_later hSw g0; have s1 := cell_later hSw g1; have s2 := cell_later hSw g2; have s3 := cell_later hSw g3; have s4 := cell_later hSw g4; go_simp; try with_reducible rfl)
        simp only [Act.put, List.setIfInBounds_toArray, List.set_cons_zero, List.set_cons_succ]
        refine wpAnyH_take (i := 29) (oi := ⟨_, _, _, _, _, _⟩) (v := ?v30) rfl (by kernel_rfl) (by kernel_rfl) (by kernel_rfl) (fun _ _ _ h => h) ?y30 hS ?_
        case y30 => first | (refine Or.inr ⟨by rfl, ?_⟩; with_reducible rfl) | (refine Or.inl ⟨by rfl, ?_⟩; intro wS hSw; have s0 := cell_later hSw g0; have s1 := cell_later hSw g1; have s2 := cell_later hSw g2; have s3 := cell_later hSw g3; have s4 := cell_later hSw g4; go_simp; try with_reducible rfl)
        simp only [Act.put, List.setIfInBounds_toArray, List.set_cons_zero, List.set_cons_succ]
        refine wpAnyH_ready (rs := [30]) (by kernel_rfl) (by simp) ?_
        refine AllReadyH.cons (o := ⟨_, _, _, _, _, _⟩) rfl (fun K hK => ?_) AllReadyH.nil
        go_simp
        refine (Hmk.out _).mono ?_
        rintro e wx ⟨rfl, hbx⟩; have hS := hS.trans (hbx.mono hS.size)
        go_wp2_with fail
        refine hK.out _ _ hS (fun _ => ?_)
        clear hK K
        try simp only [Act.put, List.setIfInBounds_toArray, List.set_cons_zero, List.set_cons_succ]
        refine wpAnyH_take (i := 31) (oi := ⟨_, _, _, _, _, _⟩) (v := ?v31) rfl (by kernel_rfl) (by kernel_rfl) (by kernel_rfl) (fun _ _ _ h => h) ?y31 hS ?_
        case y31 => first | (refine Or.inr ⟨by rfl, ?_⟩; with_reducible rfl) | (refine Or.inl ⟨by rfl, ?_⟩; intro wS hSw; have s0 := cell_later hSw g0; have s1 := cell_later hSw g1; have s2 := cell_later hSw g2; have s3 := cell_later hSw g3; have s4 := cell_later hSw g4; go_simp; try with_reducible rfl)
        simp only [Act.put, List.setIfInBounds_toArray, List.set_cons_zero, List.set_cons_succ]
        refine wpAnyH_take (i := 32) (oi := ⟨_, _, _, _, _, _⟩) (v := ?v32) rfl (by kernel_rfl) (by kernel_rfl) (by kernel_rfl) (fun _ _ _ h => h) ?y32 hS ?_
        case y32 => first | (refine Or.inr ⟨by rfl, ?_⟩; with_reducible rfl) | (refine Or.inl ⟨by rfl, ?_⟩; intro wS hSw; have s0 := cell_later hSw g0; have s1 := cell_later hSw g1; have s2 := cell_later hSw g2; have s3 := cell_later hSw g3; have s4 := cell_later hSw g4; go_simp; try with_reducible rfl)
        simp only [Act.put, List.setIfInBounds_toArray, List.set_cons_zero, List.set_cons_succ]
        refine wpAnyH_take (i := 33) (oi := ⟨_, _, _, _, _, _⟩) (v := ?v33) rfl (by kernel_rfl) (by kernel_rfl) (by kernel_rfl) (fun _ _ _ h => h) ?y33 hS ?_
        case y33 => first | (refine Or.inr ⟨by rfl, ?_⟩; with_reducible rfl) | (refine Or.inl ⟨by rfl, ?_⟩; intro wS hSw; have s0 := cell_later hSw g0; have s1 := cell_later hSw g1; have s2 := cell_later hSw g2; have s3 := cell_later hSw g3; have s4 := cell_later hSw g4; go_simp; try with_reducible rfl)
        simp only [Act.put, List.setIfInBounds_toArray, List.set_cons_zero, List.set_cons_succ]
        refine wpAnyH_take (i := 34) (oi := ⟨_, _, _, _, _, _⟩) (v := ?v34) rfl (by kernel_rfl) (by kernel_rfl) (by kernel_rfl) (fun _ _ _ h => h) ?y34 hS ?_
        case y34 => first | (refine Or.inr ⟨by rfl, ?_⟩; with_reducible rfl) | (refine Or.inl ⟨by rfl, ?_⟩; intro wS hSw; have s0 := cell_later hSw g0; have s1 := cell_later hSw g1; have s2 := cell_later hSw g2; have s3 := cell_later hSw g3; have s4 := cell_later hSw g4; go_simp; try with_reducible rfl)
        simp only [Act.put, List.setIfInBounds_toArray, List.set_cons_zero, List.set_cons_succ]
        refine wpAnyH_done (by kernel_rfl) ?_ _
        have hbel2 := hbel.trans (hS.mono hbel.size)
        clear hS
        go_wp2
        go_roundw
        case rel => exact ⟨k + 1, by omega, by go_num, hbel2⟩
        case measure => simp [intOf]; omega
    · have hlt' : ¬ (k : Int) < n + 12 := by omega
      go_wp2
      go_ret
      exact ⟨rfl, hbel⟩

set_option maxHeartbeats 1000000 in
theorem overTwigs_any (n : Nat) (g : Nat) (cur : Array Value) (w : World) (hL : w.heap[g]? = some (.cells cur 38 (0, 0))) (hs : cur.size = (n + 12) * 5) (hl : n ≤ 1000000) :
    Calls Tryz.prog 42 #[.slice (some ⟨g, 0, none⟩) n (n + 12)] w fun e w' => e = .returned (.tuple #[]) ∧ Keeps (fun k => k = g) w w' := by
  have HL := Lib.hid hL
  have Hs := Lib.hid hs
  clear hL hs
  go_enter Tryz.func42, Tryz.ntmps42
  go_wp2
  go_loopw [3] (fun i wr => ∃ (k : Nat) (cr : Array Value), k ≤ n + 12 ∧ i = .int .i64 k ∧ Keeps (fun k => k = g) w wr ∧ wr.heap[g]? = some (.cells cr 38 (0, 0)) ∧ cr.size = (n + 12) * 5) (fun i _ => n + 12 - (intOf i).toNat)
  case atStart => exact ⟨0, cur, by omega, rfl, Keeps.refl _ _, HL.out, Hs.out⟩
  case round =>
    obtain ⟨k, cr, hk, rfl, hgr, hblk, hcs⟩ := hrel
    by_cases hlt : k < n + 12
    · have hlt' : (k : Int) < n + 12 := by omega
      have Hb := Lib.hid hblk
      have Hcs := Lib.hid hcs
      clear hblk hcs
      go_wp2_with fail
      refine (markTwig_any 2 k wr (by omega) (by omega)).mono ?_
      rintro e w5 ⟨rfl, hb5⟩
      have hblk := (hb5.block _ (lt_of_block Hb.out)).trans Hb.out
      have hc : ∀ c, c < 5 → ∃ u, w5.cell? ⟨g, k * 5 + c, none⟩ = some u := fun c hc => by
        rw [(block_cell' hblk _).1]
        exact ⟨_, Array.getElem?_eq_getElem (by rw [Hcs.out]; omega)⟩
      have hf : ∀ c, w5.frozen? ⟨g, k * 5 + c, none⟩ = false := fun c => (block_cell' hblk _).2
      obtain ⟨u0, c0⟩ := hc 0 (by omega)
      obtain ⟨u1, c1⟩ := hc 1 (by omega)
      obtain ⟨u2, c2⟩ := hc 2 (by omega)
      obtain ⟨u3, c3⟩ := hc 3 (by omega)
      obtain ⟨u4, c4⟩ := hc 4 (by omega)
      have f0 := hf 0
      have f1 := hf 1
      have f2 := hf 2
      have f3 := hf 3
      have f4 := hf 4
      simp only [Nat.add_zero] at c0 f0
      have hgr5 := hgr.trans (Keeps.ofNew hb5 _)
      have Hblk := Lib.hid hblk
      have Hgr5 := Lib.hid hgr5
      clear hc hf hblk hgr5 hb5
      go_wp2
      go_roundw
      case rel => exact ⟨k + 1, _, by omega, by go_num, ((((Hgr5.out.setCell (p := ⟨g, k * 5, none⟩) rfl _).setCell (p := ⟨g, k * 5 + 1, none⟩) rfl _).setCell (p := ⟨g, k * 5 + 2, none⟩) rfl _).setCell (p := ⟨g, k * 5 + 3, none⟩) rfl _).setCell (p := ⟨g, k * 5 + 4, none⟩) rfl _, block_setCell' (block_setCell' (block_setCell' (block_setCell' (block_setCell' Hblk.out)))), by simp [Hcs.out]⟩
      case measure => simp [intOf]; omega
    · have hlt' : ¬ (k : Int) < n + 12 := by omega
      go_wp2
      go_end0
      exact ⟨rfl, hgr⟩
end Go.Proofs.YtpchjpmkkiopiaaGreat
namespace Go.Proofs.YtpchjpmkkiopiaaGreat
open Go.RowKit Go.Lib

set_option maxHeartbeats 2000000 in
theorem overNil_any (w : World) : Calls Tryz.prog 42 #[.slice none 0 0] w fun e w' => e = .returned (.tuple #[]) ∧ Below w.heap.size w w' := by
  go_enter Tryz.func42, Tryz.ntmps42
  go_wp2
  go_loopw [3] (fun i wr => i = .int .i64 0 ∧ Below w.heap.size w wr) (fun _ _ => 0)
  case atStart => exact ⟨rfl, Below.refl _ _⟩
  case round =>
    obtain ⟨rfl, hbel⟩ := hrel
    have HB := Lib.hid hbel
    clear hbel
    go_wp2
    go_end0
    exact ⟨rfl, HB.out⟩
set_option maxHeartbeats 2000000 in
theorem overOwn_any (n cap g z : Nat) (cur : Array Value) (w : World) (hL : w.heap[g]? = some (.cells cur 38 (0, 0))) (hs : cur.size = cap * 5) (hn : n ≤ cap) (hc : cap ≤ 9223372036854775807) (hl : n ≤ 1000000) (hz : z = min cap (n + 12)) :
    Calls Tryz.prog 42 #[.slice (some ⟨g, 0, none⟩) n cap] w fun e w' => e = .returned (.tuple #[]) ∧ Keeps (fun k => k = g) w w' := by
  have HL := Lib.hid hL
  have Hs := Lib.hid hs
  have hzc : z ≤ cap := by omega
  have hz12 : z ≤ 1000012 := by omega
  have key : Calls Tryz.prog 42 #[.slice (some ⟨g, 0, none⟩) n cap] w (fun e w' => e = .returned (.tuple #[]) ∧ Keeps (fun k => k = g) w w') := by
    have hz1 : (z : Int) ≤ cap := by omega
    by_cases hcn : cap ≤ n + 12
    · have e1 : min (cap : Int) ((n : Int) + 12) = (z : Int) := by omega
      have e2 : (cap : Int) ≤ (n : Int) + 12 := by omega
      obtain rfl : z = cap := by omega
      clear hL hs hz
      go_enter Tryz.func42, Tryz.ntmps42
      go_wp2
      go_loopw [3] (fun i wr => ∃ (k : Nat) (cr : Array Value), k ≤ z ∧ i = .int .i64 k ∧ Keeps (fun k => k = g) w wr ∧ wr.heap[g]? = some (.cells cr 38 (0, 0)) ∧ cr.size = z * 5) (fun i _ => z - (intOf i).toNat)
      case atStart => exact ⟨0, cur, by omega, rfl, Keeps.refl _ _, HL.out, Hs.out⟩
      case round =>
        obtain ⟨k, cr, hk, rfl, hgr, hblk, hcs⟩ := hrel
        by_cases hlt : k < z
        · have hlt' : (k : Int) < z := by omega
          have Hb := Lib.hid hblk
          have Hcs := Lib.hid hcs
          clear hblk hcs
          go_wp2_with fail
          refine (markTwig_any 2 k wr (by omega) (by omega)).mono ?_
          rintro e w5 ⟨rfl, hb5⟩
          have hblk := (hb5.block _ (lt_of_block Hb.out)).trans Hb.out
          have hc : ∀ c, c < 5 → ∃ u, w5.cell? ⟨g, k * 5 + c, none⟩ = some u := fun c hc => by
            rw [(block_cell' hblk _).1]
            exact ⟨_, Array.getElem?_eq_getElem (by rw [Hcs.out]; omega)⟩
          have hf : ∀ c, w5.frozen? ⟨g, k * 5 + c, none⟩ = false := fun c => (block_cell' hblk _).2
          obtain ⟨u0, c0⟩ := hc 0 (by omega)
          obtain ⟨u1, c1⟩ := hc 1 (by omega)
          obtain ⟨u2, c2⟩ := hc 2 (by omega)
          obtain ⟨u3, c3⟩ := hc 3 (by omega)
          obtain ⟨u4, c4⟩ := hc 4 (by omega)
          have f0 := hf 0
          have f1 := hf 1
          have f2 := hf 2
          have f3 := hf 3
          have f4 := hf 4
          simp only [Nat.add_zero] at c0 f0
          have hgr5 := hgr.trans (Keeps.ofNew hb5 _)
          have Hblk := Lib.hid hblk
          have Hgr5 := Lib.hid hgr5
          clear hc hf hblk hgr5 hb5
          go_wp2
          go_roundw
          case rel => exact ⟨k + 1, _, by omega, by go_num, (((((Hgr5.out.setCell (p := ⟨g, k * 5, none⟩) rfl _).setCell (p := ⟨g, k * 5 + 1, none⟩) rfl _).setCell (p := ⟨g, k * 5 + 2, none⟩) rfl _).setCell (p := ⟨g, k * 5 + 3, none⟩) rfl _).setCell (p := ⟨g, k * 5 + 4, none⟩) rfl _), block_setCell' (block_setCell' (block_setCell' (block_setCell' (block_setCell' Hblk.out)))), by simp [Hcs.out]⟩
          case measure => simp [intOf]; omega
        · have hlt' : ¬ (k : Int) < z := by omega
          go_wp2
          go_end0
          exact ⟨rfl, hgr⟩
    · have e1 : min (cap : Int) ((n : Int) + 12) = (z : Int) := by omega
      have e2 : ¬ (cap : Int) ≤ (n : Int) + 12 := by omega
      obtain rfl : z = n + 12 := by omega
      have hz2 : (n : Int) + 12 ≤ cap := by omega
      have hz3 : (0 : Int) ≤ (n : Int) + 12 := by omega
      have hz4 : ((n : Int) + 12).toNat = n + 12 := by omega
      clear hL hs hz
      go_enter Tryz.func42, Tryz.ntmps42
      go_wp2
      go_loopw [3] (fun i wr => ∃ (k : Nat) (cr : Array Value), k ≤ (n + 12) ∧ i = .int .i64 k ∧ Keeps (fun k => k = g) w wr ∧ wr.heap[g]? = some (.cells cr 38 (0, 0)) ∧ cr.size = cap * 5) (fun i _ => (n + 12) - (intOf i).toNat)
      case atStart => exact ⟨0, cur, by omega, rfl, Keeps.refl _ _, HL.out, Hs.out⟩
      case round =>
        obtain ⟨k, cr, hk, rfl, hgr, hblk, hcs⟩ := hrel
        by_cases hlt : k < (n + 12)
        · have hlt' : (k : Int) < (n : Int) + 12 := by omega
          have Hb := Lib.hid hblk
          have Hcs := Lib.hid hcs
          clear hblk hcs
          go_wp2_with fail
          refine (markTwig_any 2 k wr (by omega) (by omega)).mono ?_
          rintro e w5 ⟨rfl, hb5⟩
          have hblk := (hb5.block _ (lt_of_block Hb.out)).trans Hb.out
          have hc : ∀ c, c < 5 → ∃ u, w5.cell? ⟨g, k * 5 + c, none⟩ = some u := fun c hc => by
            rw [(block_cell' hblk _).1]
            exact ⟨_, Array.getElem?_eq_getElem (by rw [Hcs.out]; omega)⟩
          have hf : ∀ c, w5.frozen? ⟨g, k * 5 + c, none⟩ = false := fun c => (block_cell' hblk _).2
          obtain ⟨u0, c0⟩ := hc 0 (by omega)
          obtain ⟨u1, c1⟩ := hc 1 (by omega)
          obtain ⟨u2, c2⟩ := hc 2 (by omega)
          obtain ⟨u3, c3⟩ := hc 3 (by omega)
          obtain ⟨u4, c4⟩ := hc 4 (by omega)
          have f0 := hf 0
          have f1 := hf 1
          have f2 := hf 2
          have f3 := hf 3
          have f4 := hf 4
          simp only [Nat.add_zero] at c0 f0
          have hgr5 := hgr.trans (Keeps.ofNew hb5 _)
          have Hblk := Lib.hid hblk
          have Hgr5 := Lib.hid hgr5
          clear hc hf hblk hgr5 hb5
          go_wp2
          go_roundw
          case rel => exact ⟨k + 1, _, by omega, by go_num, (((((Hgr5.out.setCell (p := ⟨g, k * 5, none⟩) rfl _).setCell (p := ⟨g, k * 5 + 1, none⟩) rfl _).setCell (p := ⟨g, k * 5 + 2, none⟩) rfl _).setCell (p := ⟨g, k * 5 + 3, none⟩) rfl _).setCell (p := ⟨g, k * 5 + 4, none⟩) rfl _), block_setCell' (block_setCell' (block_setCell' (block_setCell' (block_setCell' Hblk.out)))), by simp [Hcs.out]⟩
          case measure => simp [intOf]; omega
        · have hlt' : ¬ (k : Int) < (n : Int) + 12 := by omega
          go_wp2
          go_end0
          exact ⟨rfl, hgr⟩
  exact key
theorem block_cellI {w : World} {g : Nat} {cs : Array Value} {t : TypeId} (h : w.heap[g]? = some (.cells cs t (0, 0))) {k : Nat} (hk : k < cs.size) : w.cell? ⟨g, k, none⟩ = some cs[k] ∧ w.frozen? ⟨g, k, none⟩ = false := ⟨by rw [(block_cell' h k).1]; simp [hk], (block_cell' h k).2⟩
set_option maxHeartbeats 2000000 in
theorem overINil_any (w : World) : Calls Tryz.prog 43 #[.slice none 0 0] w fun e w' => e = .returned (.tuple #[]) ∧ Below w.heap.size w w' := by
  go_enter Tryz.func43, Tryz.ntmps43
  go_wp2
  go_loopw [3] (fun i wr => i = .int .i64 0 ∧ Below w.heap.size w wr) (fun _ _ => 0)
  case atStart => exact ⟨rfl, Below.refl _ _⟩
  case round =>
    obtain ⟨rfl, hbel⟩ := hrel
    have HB := Lib.hid hbel
    clear hbel
    go_wp2
    go_end0
    exact ⟨rfl, HB.out⟩
set_option maxHeartbeats 2000000 in
theorem overIOwn_any (n cap g z : Nat) (cur : Array Value) (w : World) (hL : w.heap[g]? = some (.cells cur 3 (0, 0))) (hs : cur.size = cap) (hn : n ≤ cap) (hc : cap ≤ 9223372036854775807) (hl : n ≤ 1000000) (hz : z = min cap (n + 12)) :
    Calls Tryz.prog 43 #[.slice (some ⟨g, 0, none⟩) n cap] w fun e w' => e = .returned (.tuple #[]) ∧ Keeps (fun k => k = g) w w' := by
  have HL := Lib.hid hL
  have Hs := Lib.hid hs
  have hzc : z ≤ cap := by omega
  have hz12 : z ≤ 1000012 := by omega
  have key : Calls Tryz.prog 43 #[.slice (some ⟨g, 0, none⟩) n cap] w (fun e w' => e = .returned (.tuple #[]) ∧ Keeps (fun k => k = g) w w') := by
    have hz1 : (z : Int) ≤ cap := by omega
    by_cases hcn : cap ≤ n + 12
    · have e1 : min (cap : Int) ((n : Int) + 12) = (z : Int) := by omega
      have e2 : (cap : Int) ≤ (n : Int) + 12 := by omega
      obtain rfl : z = cap := by omega
      clear hL hs hz
      go_enter Tryz.func43, Tryz.ntmps43
      go_wp2
      go_loopw [3] (fun i wr => ∃ (k : Nat) (cr : Array Value), k ≤ z ∧ i = .int .i64 k ∧ Keeps (fun k => k = g) w wr ∧ wr.heap[g]? = some (.cells cr 3 (0, 0)) ∧ cr.size = z) (fun i _ => z - (intOf i).toNat)
      case atStart => exact ⟨0, cur, by omega, rfl, Keeps.refl _ _, HL.out, Hs.out⟩
      case round =>
        obtain ⟨k, cr, hk, rfl, hgr, hblk, hcs⟩ := hrel
        by_cases hlt : k < z
        · have hlt' : (k : Int) < z := by omega
          have Hb := Lib.hid hblk
          have Hcs := Lib.hid hcs
          clear hblk hcs
          have hcell := (block_cellI Hb.out (k := k) (by rw [Hcs.out]; omega)).1
          have hfr := (block_cellI Hb.out (k := k) (by rw [Hcs.out]; omega)).2
          have Hgr5 := Lib.hid hgr
          go_wp2_with (go_at_call 53; refine (imark_any 2 k _ (by omega) (by omega)).mono ?_; rintro e w' ⟨rfl, rfl⟩)
          go_roundw
          case rel => exact ⟨k + 1, _, by omega, by go_num, Hgr5.out.setCell (p := ⟨g, k, none⟩) rfl _, block_setCell' Hb.out, by simp [Hcs.out]⟩
          case measure => simp [intOf]; omega
        · have hlt' : ¬ (k : Int) < z := by omega
          go_wp2
          go_end0
          exact ⟨rfl, hgr⟩
    · have e1 : min (cap : Int) ((n : Int) + 12) = (z : Int) := by omega
      have e2 : ¬ (cap : Int) ≤ (n : Int) + 12 := by omega
      obtain rfl : z = n + 12 := by omega
      have hz2 : (n : Int) + 12 ≤ cap := by omega
      have hz3 : (0 : Int) ≤ (n : Int) + 12 := by omega
      have hz4 : ((n : Int) + 12).toNat = n + 12 := by omega
      clear hL hs hz
      go_enter Tryz.func43, Tryz.ntmps43
      go_wp2
      go_loopw [3] (fun i wr => ∃ (k : Nat) (cr : Array Value), k ≤ (n + 12) ∧ i = .int .i64 k ∧ Keeps (fun k => k = g) w wr ∧ wr.heap[g]? = some (.cells cr 3 (0, 0)) ∧ cr.size = cap) (fun i _ => (n + 12) - (intOf i).toNat)
      case atStart => exact ⟨0, cur, by omega, rfl, Keeps.refl _ _, HL.out, Hs.out⟩
      case round =>
        obtain ⟨k, cr, hk, rfl, hgr, hblk, hcs⟩ := hrel
        by_cases hlt : k < (n + 12)
        · have hlt' : (k : Int) < (n : Int) + 12 := by omega
          have Hb := Lib.hid hblk
          have Hcs := Lib.hid hcs
          clear hblk hcs
          have hcell := (block_cellI Hb.out (k := k) (by rw [Hcs.out]; omega)).1
          have hfr := (block_cellI Hb.out (k := k) (by rw [Hcs.out]; omega)).2
          have Hgr5 := Lib.hid hgr
          go_wp2_with (go_at_call 53; refine (imark_any 2 k _ (by omega) (by omega)).mono ?_; rintro e w' ⟨rfl, rfl⟩)
          go_roundw
          case rel => exact ⟨k + 1, _, by omega, by go_num, Hgr5.out.setCell (p := ⟨g, k, none⟩) rfl _, block_setCell' Hb.out, by simp [Hcs.out]⟩
          case measure => simp [intOf]; omega
        · have hlt' : ¬ (k : Int) < (n : Int) + 12 := by omega
          go_wp2
          go_end0
          exact ⟨rfl, hgr⟩
  exact key
end Go.Proofs.YtpchjpmkkiopiaaGreat
namespace Go.Proofs.YtpchjpmkkiopiaaGreat
open Go.RowKit Go.Lib

def pickN (x n : Int) : Int := if x.tmod n < 0 then x.tmod n + n else x.tmod n
theorem pickN_range (x n : Int) (hn : 0 < n) : 0 ≤ pickN x n ∧ pickN x n < n := by
  have h1 := Int.tmod_lt_of_pos x hn
  have h2 := Int.lt_tmod_of_pos x hn
  unfold pickN
  split <;> omega
set_option maxHeartbeats 1000000 in
theorem pick_any (w : World) (x n : Int) (hn : 0 < n) (hn2 : n ≤ 1000000) :
    Calls Tryz.prog 12 #[.int .i64 x, .int .i64 n] w fun e w' => e = .returned (.int .i64 (pickN x n)) ∧ w = w' := by
  have h1 := Int.tmod_lt_of_pos x hn
  have h2 := Int.lt_tmod_of_pos x hn
  have hw : IntKind.i64.wrap (x.tmod n) = x.tmod n := IntWalk.i64_in _ (by omega)
  have hz : (n == 0) = false := by simp; omega
  have hz2 : decide (n = 0) = false := by simp; omega
  have hz3 : ¬ n < 1 := by omega
  by_cases h0 : x.tmod n < 0
  · have hw2 : IntKind.i64.wrap (x.tmod n + n) = x.tmod n + n := IntWalk.i64_in _ (by omega)
    have hp : pickN x n = x.tmod n + n := if_pos h0
    go_enter Tryz.func12, Tryz.ntmps12
    go_wp2
    go_ret
    first | exact ⟨rfl, rfl⟩ | exact ⟨congrArg (fun z => Ending.returned (.int .i64 z)) hp.symm, rfl⟩
  · have hp : pickN x n = x.tmod n := if_neg h0
    go_enter Tryz.func12, Tryz.ntmps12
    go_wp2
    go_ret
    first | exact ⟨rfl, rfl⟩ | exact ⟨congrArg (fun z => Ending.returned (.int .i64 z)) hp.symm, rfl⟩
theorem iv_open {w : World} {v : Value} {t : List Int} (h : CellsAt w v (iv t)) : ∃ ao cap, v = .slice ao t.length cap ∧ t.length ≤ cap ∧ cap ≤ maxLen ∧ ∀ i (hi : i < t.length), ∃ b off, ao = some ⟨b, off, none⟩ ∧ b < w.heap.size ∧ w.cell? ⟨b, off + i, none⟩ = some (.int .i64 t[i]) := by
  obtain ⟨ao, b, off, cap, rfl, hlc, hcm, hnil, hao, h1, hc⟩ := h
  simp only [List.length_map] at *
  refine ⟨ao, cap, rfl, hlc, hcm, fun i hi => ⟨b, off, hao (by omega), ?_, ?_⟩⟩
  · exact World.block_lt_of_cell? (a := ⟨b, _, none⟩) _ (hc i hi)
  · rw [hc i hi, List.getElem_map]
set_option maxRecDepth 100000 in
set_option maxHeartbeats 1000000 in
theorem sameInts_any (v v' : Value) (t : List Int) (w : World) (h : CellsAt w v (iv t)) (h' : CellsAt w v' (iv t)) :
    Calls Tryz.prog 47 #[v, v'] w fun e w' => e = .returned (.bool true) ∧ Below w.heap.size w w' := by
  obtain ⟨ao, cap, rfl, hlc, hm, hc⟩ := iv_open h
  obtain ⟨ao', cap', rfl, hlc', hm', hc'⟩ := iv_open h'
  obtain ⟨n, hn⟩ : ∃ n, n = t.length := ⟨_, rfl⟩
  have Hn := Lib.hid hn
  have HC := Lib.hid hc
  have HC' := Lib.hid hc'
  rw [← hn] at hlc hlc' ⊢
  have hn2 : n ≤ 9223372036854775807 := by unfold maxLen at hm; omega
  clear hn hm hm' hc hc' h h'
  go_enter Tryz.func47, Tryz.ntmps47
  go_wp2
  go_loopw [5] (fun i wr => ∃ k : Nat, k ≤ n ∧ i = .int .i64 k ∧ Below w.heap.size w wr) (fun i _ => n - (intOf i).toNat)
  case atStart => exact ⟨0, by omega, rfl, Below.refl _ _⟩
  case round =>
    obtain ⟨k, hk, rfl, hbel⟩ := hrel
    by_cases hlt : k < n
    · have hlt' : (k : Int) < n := by omega
      obtain ⟨b, off, rfl, -, e0⟩ := HC.out k (by rw [← Hn.out]; exact hlt)
      obtain ⟨b', off', rfl, -, g0⟩ := HC'.out k (by rw [← Hn.out]; exact hlt)
      have e0 := cell_later hbel e0
      have g0 := cell_later hbel g0
      obtain ⟨x, hx⟩ : ∃ x, x = t[k]'(by rw [← Hn.out]; exact hlt) := ⟨_, rfl⟩
      rw [← hx] at e0 g0
      clear hx
      go_wp2_with fail
      go_quiet (fail)
      go_wp2
      go_roundw
      case rel => exact ⟨k + 1, by omega, by go_num, below_draws hbel _⟩
      case measure => simp [intOf]; omega
    · have hlt' : ¬ (k : Int) < n := by omega
      go_wp2
      go_ret
      exact ⟨rfl, hbel⟩
set_option maxRecDepth 100000 in
set_option maxHeartbeats 1000000 in
theorem key_any (x : Ky) (w : World) : Calls Tryz.prog 15 #[kyv x] w fun e w' => e = .returned (kyv x) ∧ Below w.heap.size w w' := by
  go_enter Tryz.func15, Tryz.ntmps15
  go_upto_region 1 with (fail)
  refine gen_world (S := fun u => Below w.heap.size w u ∧ u.heap[w.heap.size]? = some (.cells #[.int .i64 x.rule, .int .i64 x.level, .int .i64 x.place] 24 (0, 0)) ∧ u.heap[w.heap.size + 1]? = some (.cells #[.int .i64 0, .int .i64 0, .int .i64 0] 56 (0, 0))) (two_new w _ _) (fun u hu => ?_)
  obtain ⟨hb, hx, hy⟩ := hu
  have HB := Lib.hid hb
  have HY := Lib.hid hy
  obtain ⟨x0, x1, x2, -⟩ := three_box hx
  obtain ⟨y0, y1, y2, f0, f1, f2⟩ := three_box hy
  have hlt := lt_of_block hy
  clear hb hx hy
  go_wp2
  obtain ⟨h3, hk3⟩ := set3 HY.out (.int .i64 x.rule) (.int .i64 x.level) (.int .i64 x.place)
  obtain ⟨q0, q1, q2, -⟩ := three_box h3
  exact bodyPost_ret (v := .agg #[.int .i64 x.rule, .int .i64 x.level, .int .i64 x.place]) (by simp [results, Tryz.f15, go_sem, q0, q1, q2]) rfl ⟨rfl, HB.out.trans (hk3.below HB.out.size (fun k e => by omega))⟩
theorem rky_neq (p : Ky) (w : World) : (binOp .neq 56 (.agg #[.int .i64 p.rule, .int .i64 p.level, .int .i64 p.place]) (.agg #[.int .i64 p.rule, .int .i64 p.level, .int .i64 p.place])).run Tryz.prog w = .ok (.bool false) w := by
  have h := rky_eql p p w
  simp only [binOp, Sem.run_bind, decide_true] at h ⊢
  revert h
  cases (Op.equal 56 (.agg #[.int .i64 p.rule, .int .i64 p.level, .int .i64 p.place]) (.agg #[.int .i64 p.rule, .int .i64 p.level, .int .i64 p.place])).run Tryz.prog w with
  | ok b w' => simp [Result.andThen]
  | halt x w' => simp [Result.andThen]
set_option maxRecDepth 100000 in
set_option maxHeartbeats 2000000 in
theorem keys_any (v v' : Value) (S : List Ky) (w : World) (h : KyAt w v S) (h' : KyAt w v' S) :
    Calls Tryz.prog 16 #[v, v'] w fun e w' => e = .returned (.bool true) ∧ Below w.heap.size w w' := by
  have H := Lib.hid h
  have H' := Lib.hid h'
  obtain ⟨ao, cap, rfl⟩ := h.val
  obtain ⟨ao', cap', rfl⟩ := h'.val
  have hm := h.cells.2.1
  have hm1 := h.cells.1
  obtain ⟨n, hn⟩ : ∃ n, n = S.length := ⟨_, rfl⟩
  have HN := Lib.hid hn
  rw [← hn] at H H' hm1 ⊢
  have hn2 : n ≤ 9223372036854775807 := by unfold maxLen at hm; omega
  have HNe := Lib.hid rky_neq
  have HKy := Lib.hid key_any
  clear h h' hn hm hm1
  go_enter Tryz.func16, Tryz.ntmps16
  go_upto_region 2 with (fail)
  go_loopw [5] (fun i wr => ∃ k : Nat, k ≤ n ∧ i = .int .i64 k ∧ Hid (Below w.heap.size w wr)) (fun i _ => n - (intOf i).toNat)
  case atStart => exact ⟨0, Nat.zero_le _, rfl, Lib.hid (Below.refl _ _)⟩
  case round =>
    obtain ⟨k, hk, rfl, Hb⟩ := hrel
    by_cases hlt : k < n
    · have hlt2 : (k : Int) < n := by omega
      have hkS : k < S.length := by rw [← HN.out]; exact hlt
      obtain ⟨b, off, rfl, -, -⟩ := H.out.cells.2.2 k hkS
      obtain ⟨b', off', rfl, -, -⟩ := H'.out.cells.2.2 k hkS
      have HC := Lib.hid (show ∀ wS, Below wr.heap.size wr wS → wS.cell? ⟨b, off + k * 3, none⟩ = some (.int .i64 S[k].rule) ∧ wS.cell? ⟨b, off + k * 3 + 1, none⟩ = some (.int .i64 S[k].level) ∧ wS.cell? ⟨b, off + k * 3 + 2, none⟩ = some (.int .i64 S[k].place) from fun wS hw => by
        obtain ⟨b2, off2, e, -, h1⟩ := (H.out.later (Hb.out.trans (hw.mono Hb.out.size))).cells.2.2 k hkS
        simp only [Option.some.injEq, Addr.mk.injEq, and_true] at e
        obtain ⟨rfl, rfl⟩ := e
        exact h1)
      have HC' := Lib.hid (show ∀ wS, Below wr.heap.size wr wS → wS.cell? ⟨b', off' + k * 3, none⟩ = some (.int .i64 S[k].rule) ∧ wS.cell? ⟨b', off' + k * 3 + 1, none⟩ = some (.int .i64 S[k].level) ∧ wS.cell? ⟨b', off' + k * 3 + 2, none⟩ = some (.int .i64 S[k].place) from fun wS hw => by
        obtain ⟨b2, off2, e, -, h1⟩ := (H'.out.later (Hb.out.trans (hw.mono Hb.out.size))).cells.2.2 k hkS
        simp only [Option.some.injEq, Addr.mk.injEq, and_true] at e
        obtain ⟨rfl, rfl⟩ := e
        exact h1)
      obtain ⟨y, hy⟩ : ∃ y, y = S[k] := ⟨_, rfl⟩
      rw [← hy] at HC HC'
      clear hy hkS
      go_upto_region 4 with (fail)
      refine wp_region_held_drew (S := fun z => Below wr.heap.size wr z) (by kernel_rfl) (Below.refl wr.heap.size wr).drew (fun hS => ?_)
      refine wpAnyH_take (i := 0) (oi := ⟨_, _, _, _, _, _⟩) (v := ?v1) rfl (by kernel_rfl) (by kernel_rfl) (by kernel_rfl) (fun _ _ _ h => h) ?y1 hS ?_
      case y1 => first | (refine Or.inr ⟨by rfl, ?_⟩; with_reducible rfl) | (refine Or.inl ⟨by rfl, ?_⟩; intro wS hSw; obtain ⟨c0, c1, c2⟩ := HC.out wS hSw; obtain ⟨b0, b1, b2⟩ := HC'.out wS hSw; go_simp; try with_reducible rfl)
      simp only [Act.put, List.setIfInBounds_toArray, List.set_cons_zero, List.set_cons_succ]
      refine wpAnyH_take (i := 1) (oi := ⟨_, _, _, _, _, _⟩) (v := ?v2) rfl (by kernel_rfl) (by kernel_rfl) (by kernel_rfl) (fun _ _ _ h => h) ?y2 hS ?_
      case y2 => first | (refine Or.inr ⟨by rfl, ?_⟩; with_reducible rfl) | (refine Or.inl ⟨by rfl, ?_⟩; intro wS hSw; obtain ⟨c0, c1, c2⟩ := HC.out wS hSw; obtain ⟨b0, b1, b2⟩ := HC'.out wS hSw; go_simp; try with_reducible rfl)
      simp only [Act.put, List.setIfInBounds_toArray, List.set_cons_zero, List.set_cons_succ]
      refine wpAnyH_take (i := 2) (oi := ⟨_, _, _, _, _, _⟩) (v := ?v3) rfl (by kernel_rfl) (by kernel_rfl) (by kernel_rfl) (fun _ _ _ h => h) ?y3 hS ?_
      case y3 => first | (refine Or.inr ⟨by rfl, ?_⟩; with_reducible rfl) | (refine Or.inl ⟨by rfl, ?_⟩; intro wS hSw; obtain ⟨c0, c1, c2⟩ := HC.out wS hSw; obtain ⟨b0, b1, b2⟩ := HC'.out wS hSw; go_simp; try with_reducible rfl)
      simp only [Act.put, List.setIfInBounds_toArray, List.set_cons_zero, List.set_cons_succ]
      refine wpAnyH_take (i := 3) (oi := ⟨_, _, _, _, _, _⟩) (v := ?v4) rfl (by kernel_rfl) (by kernel_rfl) (by kernel_rfl) (fun _ _ _ h => h) ?y4 hS ?_
      case y4 => first | (refine Or.inr ⟨by rfl, ?_⟩; with_reducible rfl) | (refine Or.inl ⟨by rfl, ?_⟩; intro wS hSw; obtain ⟨c0, c1, c2⟩ := HC.out wS hSw; obtain ⟨b0, b1, b2⟩ := HC'.out wS hSw; go_simp; try with_reducible rfl)
      simp only [Act.put, List.setIfInBounds_toArray, List.set_cons_zero, List.set_cons_succ]
      refine wpAnyH_take (i := 5) (oi := ⟨_, _, _, _, _, _⟩) (v := ?v5) rfl (by kernel_rfl) (by kernel_rfl) (by kernel_rfl) (fun _ _ _ h => h) ?y5 hS ?_
      case y5 => first | (refine Or.inr ⟨by rfl, ?_⟩; with_reducible rfl) | (refine Or.inl ⟨by rfl, ?_⟩; intro wS hSw; obtain ⟨c0, c1, c2⟩ := HC.out wS hSw; obtain ⟨b0, b1, b2⟩ := HC'.out wS hSw; go_simp; try with_reducible rfl)
      simp only [Act.put, List.setIfInBounds_toArray, List.set_cons_zero, List.set_cons_succ]
      refine wpAnyH_take (i := 6) (oi := ⟨_, _, _, _, _, _⟩) (v := ?v6) rfl (by kernel_rfl) (by kernel_rfl) (by kernel_rfl) (fun _ _ _ h => h) ?y6 hS ?_
      case y6 => first | (refine Or.inr ⟨by rfl, ?_⟩; with_reducible rfl) | (refine Or.inl ⟨by rfl, ?_⟩; intro wS hSw; obtain ⟨c0, c1, c2⟩ := HC.out wS hSw; obtain ⟨b0, b1, b2⟩ := HC'.out wS hSw; go_simp; try with_reducible rfl)
      simp only [Act.put, List.setIfInBounds_toArray, List.set_cons_zero, List.set_cons_succ]
      refine wpAnyH_take (i := 7) (oi := ⟨_, _, _, _, _, _⟩) (v := ?v7) rfl (by kernel_rfl) (by kernel_rfl) (by kernel_rfl) (fun _ _ _ h => h) ?y7 hS ?_
      case y7 => first | (refine Or.inr ⟨by rfl, ?_⟩; with_reducible rfl) | (refine Or.inl ⟨by rfl, ?_⟩; intro wS hSw; obtain ⟨c0, c1, c2⟩ := HC.out wS hSw; obtain ⟨b0, b1, b2⟩ := HC'.out wS hSw; go_simp; try with_reducible rfl)
      simp only [Act.put, List.setIfInBounds_toArray, List.set_cons_zero, List.set_cons_succ]
      refine wpAnyH_take (i := 8) (oi := ⟨_, _, _, _, _, _⟩) (v := ?v8) rfl (by kernel_rfl) (by kernel_rfl) (by kernel_rfl) (fun _ _ _ h => h) ?y8 hS ?_
      case y8 => first | (refine Or.inr ⟨by rfl, ?_⟩; with_reducible rfl) | (refine Or.inl ⟨by rfl, ?_⟩; intro wS hSw; obtain ⟨c0, c1, c2⟩ := HC.out wS hSw; obtain ⟨b0, b1, b2⟩ := HC'.out wS hSw; go_simp; try with_reducible rfl)
      simp only [Act.put, List.setIfInBounds_toArray, List.set_cons_zero, List.set_cons_succ]
      refine wpAnyH_ready (rs := [4]) (by kernel_rfl) (by simp) ?_
      refine AllReadyH.cons (o := ⟨_, _, _, _, _, _⟩) rfl (fun K hK => ?_) AllReadyH.nil
      go_simp
      refine (HKy.out y _).mono ?_
      rintro e w2 ⟨rfl, hb⟩
      go_wp2_with fail
      have hS1 := hS.trans (hb.mono hS.size)
      refine hK.out _ _ hS1 (fun _ => ?_)
      clear hK K hb hS
      try simp only [Act.put, List.setIfInBounds_toArray, List.set_cons_zero, List.set_cons_succ]
      have hS := hS1
      clear hS1
      refine wpAnyH_take (i := 9) (oi := ⟨_, _, _, _, _, _⟩) (v := ?v9) rfl (by kernel_rfl) (by kernel_rfl) (by kernel_rfl) (fun _ _ _ h => h) ?y9 hS ?_
      case y9 => first | (refine Or.inr ⟨by rfl, ?_⟩; with_reducible rfl) | (refine Or.inl ⟨by rfl, ?_⟩; intro wS hSw; have hke := HNe.out y wS; go_simp; try with_reducible rfl)
      simp only [Act.put, List.setIfInBounds_toArray, List.set_cons_zero, List.set_cons_succ]
      refine wpAnyH_done (by kernel_rfl) ?_ _
      have HS := Lib.hid (Hb.out.trans (hS.mono Hb.out.size))
      clear hS
      go_wp2
      go_roundw
      case rel => exact ⟨k + 1, by omega, by go_num, HS⟩
      case measure => simp [intOf]; omega
    · obtain rfl : k = n := by omega
      have hlt2 : ¬ (k : Int) < k := by omega
      go_wp2
      go_ret
      exact ⟨by simp, Hb.out⟩
theorem TLentAt.own {w : World} {g : Nat} {t : List Tw} (h : TLentAt w g t) (hl : t.length ≤ 1000000) : TwOwn 0 w (.slice (some ⟨g, 0, none⟩) t.length (t.length + 12)) t := by
  refine own_shut (by rw [flat_len twc_len]) (Nat.zero_le _) h (by omega) (by unfold maxLen; omega) ?_ ?_
  · simp only [List.size_toArray, tvs]; rw [flat_len twc_len, tmk_len]
  · simp only [tvs]
    rw [flat_takeC twc_len]
    congr 1
    unfold tmk
    rw [List.take_left' rfl]
theorem ILentAt.own {w : World} {g : Nat} {t : List Int} (h : ILentAt w g t) (hl : t.length ≤ 1000000) : IvOwn 0 w (.slice (some ⟨g, 0, none⟩) t.length (t.length + 12)) t := by
  refine own_shut (by simp) (Nat.zero_le _) h (by omega) (by unfold maxLen; omega) ?_ ?_
  · simp only [List.size_toArray, iv, List.length_map]; rw [imk_len]; omega
  · simp only [iv, Nat.mul_one]
    rw [← List.map_take]
    congr 1
    unfold imk
    rw [List.take_left' rfl]
set_option maxRecDepth 100000 in
set_option maxHeartbeats 2000000 in
theorem lent_any (x : Ent) (w : World) (ht : TwAt w x.tv x.tree) (hk : CellsAt w x.kv (iv x.tou)) (hlt : x.tree.length ≤ 1000000) (hlk : x.tou.length ≤ 1000000) :
    Calls Tryz.prog 11 #[entv x] w fun e w' => ∃ g1 g2 : Nat, e = .returned (entv ⟨x.is, x.en, x.far, x.tree, x.tou, .slice (some ⟨g1, 0, none⟩) x.tree.length (x.tree.length + 12), .slice (some ⟨g2, 0, none⟩) x.tou.length (x.tou.length + 12)⟩) ∧ TLentAt w' g1 x.tree ∧ ILentAt w' g2 x.tou ∧ w.heap.size ≤ g1 ∧ w.heap.size ≤ g2 ∧ Below w.heap.size w w' := by
  obtain ⟨is, en, far, tree, tou, tv, kv⟩ := x
  simp only at *
  have HT := Lib.hid ht
  have HK := Lib.hid hk
  have HL1 := Lib.hid hlt
  have HL2 := Lib.hid hlk
  obtain ⟨at1, ct, rfl⟩ := ht.val
  obtain ⟨ak1, ck, rfl, -, -, -⟩ := iv_open hk
  clear ht hk hlt hlk
  obtain ⟨nt, hnt⟩ : ∃ n, n = tree.length := ⟨_, rfl⟩
  obtain ⟨nk, hnk⟩ : ∃ n, n = tou.length := ⟨_, rfl⟩
  have HNt := Lib.hid hnt
  have HNk := Lib.hid hnk
  rw [← hnt] at HT ⊢
  rw [← hnk] at HK ⊢
  clear hnt hnk
  go_enter Tryz.func11, Tryz.ntmps11
  go_upto_region 1 with (fail)
  refine gen_world (S := fun u => Below w.heap.size w u ∧ u.heap[w.heap.size]? = some (.cells #[.bool is, .int .i64 en, .int .i64 far, .slice at1 nt ct, .slice ak1 nk ck] 30 (0, 0)) ∧ u.heap[w.heap.size + 1]? = some (.cells #[.bool false, .int .i64 0, .int .i64 0, .slice none 0 0, .slice none 0 0] 30 (0, 0))) (two_new w _ _) (fun u hu => ?_)
  obtain ⟨hb, hx, hy⟩ := hu
  obtain ⟨X, hX⟩ : ∃ X, X = w.heap.size := ⟨_, rfl⟩
  rw [← hX] at hx hy ⊢
  have HXe := Lib.hid hX
  have HB := Lib.hid hb
  have HX := Lib.hid hx
  have HY := Lib.hid hy
  obtain ⟨⟨x0, x1, x2, x3, x4⟩, -⟩ := five_box hx
  clear hb hx hy hX
  go_wp2_with fail
  refine (lentTwigs_any _ tree u (HT.out.later HB.out) HL1.out).mono ?_
  rintro e w1 ⟨rfl, hl1, hb1⟩
  rw [← HNt.out]
  have hgs := HB.out.size
  obtain ⟨g1, hg1⟩ : ∃ g, g = u.heap.size := ⟨_, rfl⟩
  rw [← hg1] at hl1 ⊢
  have hX1 := (hb1.block _ (lt_of_block HX.out)).trans HX.out
  have hY1 := (hb1.block _ (lt_of_block HY.out)).trans HY.out
  have HG1 := Lib.hid (show w.heap.size ≤ g1 ∧ X + 1 < g1 from ⟨by omega, by rw [hg1]; exact lt_of_block HY.out⟩)
  replace HB := Lib.hid (HB.out.trans (hb1.mono HB.out.size))
  have HX1 := Lib.hid hX1
  have HY1 := Lib.hid hY1
  have HT1 := Lib.hid hl1
  clear hb1 hl1 hX1 hY1 hg1 hgs x0 x1 x2 x3 x4 HX HY
  obtain ⟨⟨x0, x1, x2, x3, x4⟩, ⟨f0, f1, f2, f3, f4⟩⟩ := five_box HX1.out
  go_upto_region 2 with (fail)
  have hset : Keeps (fun k => k = X) w1 (w1.setCell ⟨X, 3, none⟩ (.slice (some ⟨g1, 0, none⟩) nt (nt + 12))) := (Keeps.refl (fun k => k = X) w1).setCell (p := ⟨X, 3, none⟩) rfl _
  have HX2 := Lib.hid (show (w1.setCell ⟨X, 3, none⟩ (.slice (some ⟨g1, 0, none⟩) nt (nt + 12))).heap[X]? = some (.cells #[.bool is, .int .i64 en, .int .i64 far, .slice (some ⟨g1, 0, none⟩) nt (nt + 12), .slice ak1 nk ck] 30 (0, 0)) from block_setCell' (k := 3) HX1.out)
  have HY2 := Lib.hid (hset.obj HY1.out (by omega))
  have HT2 := Lib.hid (show TLentAt (w1.setCell ⟨X, 3, none⟩ (.slice (some ⟨g1, 0, none⟩) nt (nt + 12))) g1 tree from hset.obj HT1.out (by have := HG1.out; omega))
  have HB2 := Lib.hid (HB.out.trans (hset.below HB.out.size (fun k e => by have := HXe.out; omega)))
  generalize w1.setCell ⟨X, 3, none⟩ (.slice (some ⟨g1, 0, none⟩) nt (nt + 12)) = w2 at HX2 HY2 HT2 HB2 ⊢
  clear hset x0 x1 x2 x3 x4 f0 f1 f2 f3 f4 HX1 HY1 HT1 HB
  obtain ⟨⟨x0, x1, x2, x3, x4⟩, -⟩ := five_box HX2.out
  go_wp2_with fail
  refine (lentInts_any _ tou w2 (HK.out.later HB2.out) HL2.out).mono ?_
  rintro e w3 ⟨rfl, hl1, hb1⟩
  rw [← HNk.out]
  have hgs := HB2.out.size
  obtain ⟨g2, hg2⟩ : ∃ g, g = w2.heap.size := ⟨_, rfl⟩
  rw [← hg2] at hl1 ⊢
  have hX1 := (hb1.block _ (lt_of_block HX2.out)).trans HX2.out
  have hY1 := (hb1.block _ (lt_of_block HY2.out)).trans HY2.out
  have HG2 := Lib.hid (show w.heap.size ≤ g2 ∧ X + 1 < g2 from ⟨by omega, by rw [hg2]; exact lt_of_block HY2.out⟩)
  replace HB := Lib.hid (HB2.out.trans (hb1.mono HB2.out.size))
  have HX1 := Lib.hid hX1
  have HY1 := Lib.hid hY1
  have HT1 := Lib.hid (HT2.out.later hb1)
  have HI1 := Lib.hid hl1
  clear hb1 hl1 hX1 hY1 hg2 hgs x0 x1 x2 x3 x4 HX2 HY2 HT2 HB2
  obtain ⟨⟨x0, x1, x2, x3, x4⟩, ⟨f0, f1, f2, f3, f4⟩⟩ := five_box HX1.out
  go_upto_region 3 with (fail)
  have hset : Keeps (fun k => k = X) w3 (w3.setCell ⟨X, 4, none⟩ (.slice (some ⟨g2, 0, none⟩) nk (nk + 12))) := (Keeps.refl (fun k => k = X) w3).setCell (p := ⟨X, 4, none⟩) rfl _
  have HX2 := Lib.hid (show (w3.setCell ⟨X, 4, none⟩ (.slice (some ⟨g2, 0, none⟩) nk (nk + 12))).heap[X]? = some (.cells #[.bool is, .int .i64 en, .int .i64 far, .slice (some ⟨g1, 0, none⟩) nt (nt + 12), .slice (some ⟨g2, 0, none⟩) nk (nk + 12)] 30 (0, 0)) from block_setCell' (k := 4) HX1.out)
  have HY2 := Lib.hid (hset.obj HY1.out (by omega))
  have HT2 := Lib.hid (show TLentAt (w3.setCell ⟨X, 4, none⟩ (.slice (some ⟨g2, 0, none⟩) nk (nk + 12))) g1 tree from hset.obj HT1.out (by have := HG1.out; omega))
  have HI2 := Lib.hid (show ILentAt (w3.setCell ⟨X, 4, none⟩ (.slice (some ⟨g2, 0, none⟩) nk (nk + 12))) g2 tou from hset.obj HI1.out (by have := HG2.out; omega))
  have HB2 := Lib.hid (HB.out.trans (hset.below HB.out.size (fun k e => by have := HXe.out; omega)))
  generalize w3.setCell ⟨X, 4, none⟩ (.slice (some ⟨g2, 0, none⟩) nk (nk + 12)) = w4 at HX2 HY2 HT2 HI2 HB2 ⊢
  clear hset x0 x1 x2 x3 x4 f0 f1 f2 f3 f4 HX1 HY1 HT1 HI1 HB
  obtain ⟨⟨x0, x1, x2, x3, x4⟩, -⟩ := five_box HX2.out
  obtain ⟨⟨y0, y1, y2, y3, y4⟩, ⟨f0, f1, f2, f3, f4⟩⟩ := five_box HY2.out
  have hlt := lt_of_block HY2.out
  go_wp2
  obtain ⟨h5, hk5⟩ := set5 HY2.out (.bool is) (.int .i64 en) (.int .i64 far) (.slice (some ⟨g1, 0, none⟩) nt (nt + 12)) (.slice (some ⟨g2, 0, none⟩) nk (nk + 12))
  obtain ⟨⟨q0, q1, q2, q3, q4⟩, -⟩ := five_box h5
  exact bodyPost_ret (v := .agg #[.bool is, .int .i64 en, .int .i64 far, .slice (some ⟨g1, 0, none⟩) nt (nt + 12), .slice (some ⟨g2, 0, none⟩) nk (nk + 12)]) (by simp [results, Tryz.f11, go_sem, q0, q1, q2, q3, q4]) rfl ⟨g1, g2, rfl, hk5.obj HT2.out (by have := HG1.out; omega), hk5.obj HI2.out (by have := HG2.out; omega), HG1.out.1, HG2.out.1, HB2.out.trans (hk5.below HB2.out.size (fun k e => by have := HXe.out; omega))⟩
end Go.Proofs.YtpchjpmkkiopiaaGreat
namespace Go.Proofs.YtpchjpmkkiopiaaGreat
open Go.RowKit Go.Lib

set_option maxRecDepth 100000 in
set_option maxHeartbeats 2000000 in
theorem kept_any (x : Ent) (g1 g2 : Nat) (w : World) (ht : TwAt w x.tv x.tree) (hk : CellsAt w x.kv (iv x.tou)) (h1 : TLentAt w g1 x.tree) (h2 : ILentAt w g2 x.tou) (hlt : x.tree.length ≤ 1000000) (hlk : x.tou.length ≤ 1000000) :
    Calls Tryz.prog 22 #[entv ⟨x.is, x.en, x.far, x.tree, x.tou, .slice (some ⟨g1, 0, none⟩) x.tree.length (x.tree.length + 12), .slice (some ⟨g2, 0, none⟩) x.tou.length (x.tou.length + 12)⟩, entv x] w fun e w' => e = .returned (.bool true) ∧ Below w.heap.size w w' := by
  obtain ⟨is, en, far, tree, tou, tv, kv⟩ := x
  simp only at *
  have HT := Lib.hid ht
  have HK := Lib.hid hk
  have H1 := Lib.hid h1
  have H2 := Lib.hid h2
  have HL1 := Lib.hid hlt
  have HL2 := Lib.hid hlk
  obtain ⟨at1, ct, rfl⟩ := ht.val
  obtain ⟨ak1, ck, rfl, -, -, -⟩ := iv_open hk
  clear ht hk hlt hlk h1 h2
  obtain ⟨nt, hnt⟩ : ∃ n, n = tree.length := ⟨_, rfl⟩
  obtain ⟨nk, hnk⟩ : ∃ n, n = tou.length := ⟨_, rfl⟩
  have HNt := Lib.hid hnt
  have HNk := Lib.hid hnk
  rw [← hnt] at HT ⊢
  rw [← hnk] at HK ⊢
  clear hnt hnk
  go_enter Tryz.func22, Tryz.ntmps22
  go_upto_region 1 with (fail)
  refine gen_world (S := fun u => Below w.heap.size w u ∧ u.heap[w.heap.size]? = some (.cells #[.bool is, .int .i64 en, .int .i64 far, .slice (some ⟨g1, 0, none⟩) nt (nt + 12), .slice (some ⟨g2, 0, none⟩) nk (nk + 12)] 30 (0, 0)) ∧ u.heap[w.heap.size + 1]? = some (.cells #[.bool is, .int .i64 en, .int .i64 far, .slice at1 nt ct, .slice ak1 nk ck] 30 (0, 0))) (two_new w _ _) (fun u hu => ?_)
  obtain ⟨hb, hx, hy⟩ := hu
  obtain ⟨X, hX⟩ : ∃ X, X = w.heap.size := ⟨_, rfl⟩
  rw [← hX] at hx hy ⊢
  have HB := Lib.hid hb
  have HX := Lib.hid hx
  have HY := Lib.hid hy
  obtain ⟨⟨x0, x1, x2, x3, x4⟩, -⟩ := five_box hx
  obtain ⟨⟨y0, y1, y2, y3, y4⟩, -⟩ := five_box hy
  clear hb hx hy hX
  go_wp2_with fail
  refine (show Calls Tryz.prog 40 #[.slice (some ⟨g1, 0, none⟩) nt (nt + 12), .slice at1 nt ct] u _ from by
    have := keptTwigs_any (.slice at1 nt ct) tree g1 u (HT.out.later HB.out) (H1.out.later HB.out) HL1.out
    rw [← HNt.out] at this
    exact this).mono ?_
  rintro e w1 ⟨rfl, hb1⟩
  have HB1 := Lib.hid (HB.out.trans (hb1.mono HB.out.size))
  have hX1 := (hb1.block _ (lt_of_block HX.out)).trans HX.out
  have hY1 := (hb1.block _ (lt_of_block HY.out)).trans HY.out
  clear hb1 x0 x1 x2 x3 x4 y0 y1 y2 y3 y4
  obtain ⟨⟨x0, x1, x2, x3, x4⟩, -⟩ := five_box hX1
  obtain ⟨⟨y0, y1, y2, y3, y4⟩, -⟩ := five_box hY1
  clear hX1 hY1
  go_wp2_with fail
  refine (show Calls Tryz.prog 41 #[.slice (some ⟨g2, 0, none⟩) nk (nk + 12), .slice ak1 nk ck] w1 _ from by
    have := keptInts_any (.slice ak1 nk ck) tou g2 w1 (HK.out.later HB1.out) (H2.out.later HB1.out) HL2.out
    rw [← HNk.out] at this
    exact this).mono ?_
  rintro e w2 ⟨rfl, hb2⟩
  have HB2 := Lib.hid (HB1.out.trans (hb2.mono HB1.out.size))
  clear hb2 x0 x1 x2 x3 x4 y0 y1 y2 y3 y4
  go_wp2
  go_ret
  exact ⟨rfl, HB2.out⟩
theorem overTw_own {B : Nat} {v : Value} {t : List Tw} (w : World) (h : TwOwn B w v t) (hl : t.length ≤ 1000000) : Calls Tryz.prog 42 #[v] w fun e w' => e = .returned (.tuple #[]) ∧ Keeps (fun k => v.ownBlock = some k) w w' := by
  rcases h.2 with ⟨rfl, h0⟩ | ⟨g, cap, cur, rfl, hb, hg, h1, h2, h3, hh⟩
  · exact (overNil_any w).mono fun e w' hh => ⟨hh.1, Keeps.ofNew hh.2 _⟩
  · refine (overOwn_any t.length cap g (min cap (t.length + 12)) cur w hg h3 h1 (by unfold maxLen at h2; omega) hl rfl).mono fun e w' hh => ⟨hh.1, Keeps.mono hh.2 fun k _ e => ?_⟩
    subst e; rfl
theorem overIv_own {B : Nat} {v : Value} {t : List Int} (w : World) (h : IvOwn B w v t) (hl : t.length ≤ 1000000) : Calls Tryz.prog 43 #[v] w fun e w' => e = .returned (.tuple #[]) ∧ Keeps (fun k => v.ownBlock = some k) w w' := by
  rcases h.2 with ⟨rfl, h0⟩ | ⟨g, cap, cur, rfl, hb, hg, h1, h2, h3, hh⟩
  · exact (overINil_any w).mono fun e w' hh => ⟨hh.1, Keeps.ofNew hh.2 _⟩
  · refine (overIOwn_any t.length cap g (min cap (t.length + 12)) cur w hg (by omega) h1 (by unfold maxLen at h2; omega) hl rfl).mono fun e w' hh => ⟨hh.1, Keeps.mono hh.2 fun k _ e => ?_⟩
    subst e; rfl
theorem own_type {B C n k : Nat} {w : World} {t : TypeId} {v : Value} {xs : List Value} (h : w.ownsRow B t C v n xs) (hk : v.ownBlock = some k) : ∃ cs, w.heap[k]? = some (.cells cs t (0, 0)) := by
  rcases h.2 with ⟨rfl, -⟩ | ⟨g, cap, cur, rfl, -, hg, -⟩
  · simp [Value.ownBlock] at hk
  · simp only [Value.ownBlock, Option.some.injEq] at hk
    subst hk
    exact ⟨cur, hg⟩
set_option maxRecDepth 100000 in
set_option maxHeartbeats 2000000 in
theorem over_any {B : Nat} (x : Ent) (w : World) (ht : TwOwn B w x.tv x.tree) (hk : IvOwn B w x.kv x.tou) (hlt : x.tree.length ≤ 1000000) (hlk : x.tou.length ≤ 1000000) :
    Calls Tryz.prog 23 #[entv x] w fun e w' => e = .returned (.tuple #[]) ∧ Keeps (fun k => x.tv.ownBlock = some k ∨ x.kv.ownBlock = some k) w w' := by
  obtain ⟨is, en, far, tree, tou, tv, kv⟩ := x
  simp only at *
  have HT := Lib.hid ht
  have HK := Lib.hid hk
  have HL1 := Lib.hid hlt
  have HL2 := Lib.hid hlk
  obtain ⟨at1, ct, rfl⟩ := own_val ht
  obtain ⟨ak1, ck, rfl⟩ := own_val hk
  clear ht hk hlt hlk
  obtain ⟨nt, hnt⟩ : ∃ n, n = tree.length := ⟨_, rfl⟩
  obtain ⟨nk, hnk⟩ : ∃ n, n = tou.length := ⟨_, rfl⟩
  have HNt := Lib.hid hnt
  have HNk := Lib.hid hnk
  rw [← hnt] at HT ⊢
  rw [← hnk] at HK ⊢
  clear hnt hnk
  go_enter Tryz.func23, Tryz.ntmps23
  go_upto_region 1 with (fail)
  refine gen_world (S := fun u => Below w.heap.size w u ∧ u.heap[w.heap.size]? = some (.cells #[.bool is, .int .i64 en, .int .i64 far, .slice at1 nt ct, .slice ak1 nk ck] 30 (0, 0))) (one_new w _) (fun u hu => ?_)
  obtain ⟨hb, hx⟩ := hu
  obtain ⟨X, hX⟩ : ∃ X, X = w.heap.size := ⟨_, rfl⟩
  rw [← hX] at hx ⊢
  have HXe := Lib.hid hX
  have HB := Lib.hid hb
  have HX := Lib.hid hx
  obtain ⟨⟨x0, x1, x2, x3, x4⟩, -⟩ := five_box hx
  clear hb hx hX
  go_wp2_with fail
  refine (overTw_own (B := B) u (show TwOwn B u (.slice at1 nt ct) tree from by have := row_later HT.out HB.out; rwa [HNt.out] at this ⊢) HL1.out).mono ?_
  rintro e w1 ⟨rfl, hk1⟩
  have hX1 := hk1.obj HX.out (fun e => by have := (HT.out.lt X e).2; have := HXe.out; omega)
  have hI1 := row_kept (row_later HK.out HB.out) hk1 (fun k cs hc e => by
    obtain ⟨cs2, h2⟩ := own_type (row_later HT.out HB.out) (k := k) e
    rw [h2] at hc
    simp at hc)
  have HI1 := Lib.hid hI1
  have HK1 := Lib.hid hk1
  clear hk1 hI1 x0 x1 x2 x3 x4
  obtain ⟨⟨x0, x1, x2, x3, x4⟩, -⟩ := five_box hX1
  clear hX1
  go_wp2_with fail
  refine (overIv_own (B := B) w1 (show IvOwn B w1 (.slice ak1 nk ck) tou from by have := HI1.out; rwa [HNk.out] at this ⊢) HL2.out).mono ?_
  rintro e w2 ⟨rfl, hk2⟩
  have HK2 := Lib.hid hk2
  clear hk2 x0 x1 x2 x3 x4
  go_wp2
  go_end0
  exact ⟨rfl, (Keeps.ofNew HB.out _).trans ((Keeps.mono HK1.out fun _ _ e => .inl e).trans (Keeps.mono HK2.out fun _ _ e => .inr e))⟩
set_option maxRecDepth 100000 in
set_option maxHeartbeats 2000000 in
theorem sameFound_any (is : Bool) (en far : Int) (v v' : Value) (t : List Tw) (w : World) (h : TwAt w v t) (h' : TwAt w v' t) :
    Calls Tryz.prog 46 #[.agg #[.bool is, .int .i64 en, .int .i64 far, v], .agg #[.bool is, .int .i64 en, .int .i64 far, v']] w fun e w' => e = .returned (.bool true) ∧ Below w.heap.size w w' := by
  have HT := Lib.hid h
  have HT' := Lib.hid h'
  obtain ⟨ao, cap, rfl⟩ := h.val
  obtain ⟨ao', cap', rfl⟩ := h'.val
  obtain ⟨nt, hnt⟩ : ∃ n, n = t.length := ⟨_, rfl⟩
  rw [← hnt] at HT HT' ⊢
  clear h h' hnt
  go_enter Tryz.func46, Tryz.ntmps46
  go_upto_region 1 with (fail)
  refine gen_world (S := fun u => Below w.heap.size w u ∧ u.heap[w.heap.size]? = some (.cells #[.bool is, .int .i64 en, .int .i64 far, .slice ao nt cap] 27 (0, 0)) ∧ u.heap[w.heap.size + 1]? = some (.cells #[.bool is, .int .i64 en, .int .i64 far, .slice ao' nt cap'] 27 (0, 0))) (two_new w _ _) (fun u hu => ?_)
  obtain ⟨hb, hx, hy⟩ := hu
  obtain ⟨X, hX⟩ : ∃ X, X = w.heap.size := ⟨_, rfl⟩
  rw [← hX] at hx hy ⊢
  have HB := Lib.hid hb
  obtain ⟨x0, x1, x2, x3⟩ := four_boxM hx
  obtain ⟨y0, y1, y2, y3⟩ := four_boxM hy
  have q0 : (is == is) = true := by simp
  have q1 : (en == en) = true := by simp
  have q2 : (far == far) = true := by simp
  clear hb hx hy hX
  go_wp2_with fail
  refine (sameTwigs_any _ _ t u (HT.out.later HB.out) (HT'.out.later HB.out)).mono ?_
  rintro e w1 ⟨rfl, hb1⟩
  have HB1 := Lib.hid (HB.out.trans (hb1.mono HB.out.size))
  clear hb1 x0 x1 x2 x3 y0 y1 y2 y3
  go_wp2
  go_ret
  exact ⟨rfl, HB1.out⟩
/-- an entry, but for where its slices lie. -/
def plX (x : Ent) : Bool × Int × Int × List Tw × List Int := (x.is, x.en, x.far, x.tree, x.tou)
def zeroX : Ent := ⟨false, 0, 0, [], [], .slice none 0 0, .slice none 0 0⟩
def getX (L : List Rec) (k : Ky) : Bool × Int × Int × List Tw × List Int := match fndK L k with
  | some r => plX r.x
  | none => plX zeroX
theorem plR_fnd {L L' : List Rec} (h : L'.map plR = L.map plR) (x : Ky) : (fndK L' x).map plR = (fndK L x).map plR := by
  have e : ∀ M : List Rec, (fndK M x).map plR = (M.map plR).find? fun z => z.1 == x := fun M => by
    unfold fndK
    rw [List.find?_map]
    rfl
  rw [e, e, h]
theorem plR_keys {L L' : List Rec} (h : L'.map plR = L.map plR) : L'.map (·.k) = L.map (·.k) := by
  have e : ∀ M : List Rec, M.map (·.k) = (M.map plR).map (·.1) := fun M => by rw [List.map_map]; rfl
  rw [e, e, h]
theorem plR_len {L L' : List Rec} (h : L'.map plR = L.map plR) : L'.length = L.length := by
  have := congrArg List.length h
  simpa using this
theorem plR_has {L L' : List Rec} (h : L'.map plR = L.map plR) (x : Ky) : hasK L' x = hasK L x := by
  have := congrArg Option.isSome (plR_fnd h x)
  simpa [hasK] using this
theorem plR_get {L L' : List Rec} (h : L'.map plR = L.map plR) (x : Ky) : getX L' x = getX L x := by
  have := plR_fnd h x
  unfold getX
  cases h1 : fndK L' x with
  | none =>
    cases h2 : fndK L x with
    | none => rfl
    | some b => rw [h1, h2] at this; simp at this
  | some a =>
    cases h2 : fndK L x with
    | none => rw [h1, h2] at this; simp at this
    | some b =>
      rw [h1, h2] at this
      simp only [Option.map_some, Option.some.injEq, plR, Prod.mk.injEq] at this
      obtain ⟨-, -, h3, h4, h5, h6, h7⟩ := this
      show plX a.x = plX b.x
      simp only [plX, h3, h4, h5, h6, h7]
theorem mGetX_any [Watch] {base : Nat} {p q nm km em : Nat} {next room peak : Int} {L : List Rec} {k : Ky} (w : World) (h : MeIs base w p q nm km em next room peak L) (hk : kyOk k) (hsz : ∀ r ∈ L, r.x.tree.length ≤ 1000000 ∧ r.x.tou.length ≤ 1000000) :
    Calls Tryz.prog 25 #[.pointer (some ⟨p, 0, none⟩), kyv k] w fun e w' => ∃ x : Ent, e = .returned (.tuple #[entv x, .bool (hasK L k)]) ∧ plX x = getX L k ∧ TwOwn w.heap.size w' x.tv x.tree ∧ IvOwn w.heap.size w' x.kv x.tou ∧ x.tree.length ≤ 1000000 ∧ x.tou.length ≤ 1000000 ∧ Below w.heap.size w w' := by
  cases hf : fndK L k with
  | none =>
    refine (mGetN_any w h hk hf).mono ?_
    rintro e w1 ⟨rfl, hb⟩
    exact ⟨zeroX, by unfold hasK; rw [hf]; rfl, by unfold getX; rw [hf], World.ownsRow_nil _ _ _ _, World.ownsRow_nil _ _ _ _, by simp [zeroX], by simp [zeroX], hb⟩
  | some r =>
    have hz := hsz r (fndK_some hf).1
    refine (mGet_any w h hf hz.1 hz.2).mono ?_
    rintro e w1 ⟨tv, kv, rfl, h1, h2, hb⟩
    exact ⟨⟨r.x.is, r.x.en, r.x.far, r.x.tree, r.x.tou, tv, kv⟩, by unfold hasK; rw [hf]; rfl, by unfold getX; rw [hf]; rfl, h1, h2, hz.1, hz.2, hb⟩
/-- the entries of the document's memory are read in the world. -/
def EntsAt (w : World) (D : List Rec) : Prop := ∀ r ∈ D, TwAt w r.x.tv r.x.tree ∧ CellsAt w r.x.kv (iv r.x.tou)
theorem EntsAt.later {w w' : World} {D : List Rec} (h : EntsAt w D) (hb : Below w.heap.size w w') : EntsAt w' D := fun r hr => ⟨(h r hr).1.later hb, (h r hr).2.later hb⟩
theorem nil_twAt (w : World) : TwAt w (.slice none 0 0) [] := (nil_tw w).got.1
theorem nil_ivAt (w : World) : CellsAt w (.slice none 0 0) (iv []) := (nil_iv w).got.1
theorem rmGetX_any {base r : Nat} {kv lv : Value} {room peak : Int} {D : List Rec} {k : Ky} (w : World) (h : Rm base w r kv lv room peak D) (he : EntsAt w D) :
    Calls Tryz.prog 45 #[.pointer (some ⟨r, 0, none⟩), kyv k] w fun e w' => ∃ x : Ent, e = .returned (.tuple #[entv x, .bool (hasK D k)]) ∧ plX x = getX D k ∧ TwAt w' x.tv x.tree ∧ CellsAt w' x.kv (iv x.tou) ∧ Below w.heap.size w w' := by
  cases hf : fndK D k with
  | none =>
    refine (rmGet_no w h hf).mono ?_
    rintro e w1 ⟨rfl, hb⟩
    exact ⟨zeroX, by unfold hasK; rw [hf]; rfl, by unfold getX; rw [hf], nil_twAt _, nil_ivAt _, hb⟩
  | some q =>
    obtain ⟨i, hi, hq, rfl⟩ := idx_of hf
    subst hq
    refine (rmGet_yes (e := D[i].x) w h hi rfl).mono ?_
    rintro e w1 ⟨rfl, hb⟩
    have := he _ (List.getElem_mem hi)
    exact ⟨D[i].x, by unfold hasK; rw [hf]; rfl, by unfold getX; rw [hf], this.1.later hb, this.2.later hb, hb⟩
end Go.Proofs.YtpchjpmkkiopiaaGreat
