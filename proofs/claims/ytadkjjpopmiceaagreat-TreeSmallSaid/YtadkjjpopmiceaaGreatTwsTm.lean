import Derived.Test.YtadkjjpopmiceaaGreatTwgTm
import Derived.Deep.RegionHeld3
namespace Go.Proofs.YtadkjjpopmiceaaGreat
open Go.RowKit Go.Lib

def twv (t : Tw) : Value := .agg #[.int .i64 t.rule, .int .i64 t.lev, .int .i64 t.fr, .int .i64 t.to, .int .i64 t.kids]

set_option maxRecDepth 100000 in
set_option maxHeartbeats 1000000 in
theorem sameTwigs_any (v v' : Value) (t : List Tw) (w : World) (h : TwAt w v t) (h' : TwAt w v' t) :
    Calls Tryz.prog 18 #[v, v'] w fun e w' => e = .returned (.bool true) ∧ Below w.heap.size w w' := by
  have H := Lib.hid h
  have H' := Lib.hid h'
  obtain ⟨ao, cap, rfl⟩ := h.val
  obtain ⟨ao', cap', rfl⟩ := h'.val
  have hm := h.cells.2.2.1
  have hlc := h.cells.2.1
  have hlc' := h'.cells.2.1
  clear h h'
  obtain ⟨n, hn⟩ : ∃ n, n = t.length := ⟨_, rfl⟩
  have Hn := Lib.hid hn
  rw [← hn] at hlc hlc' H H' ⊢
  have hn2 : n ≤ 9223372036854775807 := by unfold maxLen at hm; omega
  clear hn hm
  go_enter Tryz.func18, Tryz.ntmps18
  go_wp2
  go_loopw [5] (fun i wr => ∃ k : Nat, k ≤ n ∧ i = .int .i64 k ∧ Below w.heap.size w wr) (fun i _ => n - (intOf i).toNat)
  case atStart => exact ⟨0, by omega, rfl, Below.refl _ _⟩
  case round =>
    obtain ⟨k, hk, rfl, hbel⟩ := hrel
    by_cases hlt : k < n
    · have hlt' : (k : Int) < n := by omega
      obtain ⟨b, off, rfl, -, e0, e1, e2, e3, e4⟩ := (H.out.later hbel).cells.2.2.2.2 k (by rw [← Hn.out]; exact hlt)
      obtain ⟨b', off', rfl, -, g0, g1, g2, g3, g4⟩ := (H'.out.later hbel).cells.2.2.2.2 k (by rw [← Hn.out]; exact hlt)
      obtain ⟨x, hx⟩ : ∃ x, x = t[k]'(by rw [← Hn.out]; exact hlt) := ⟨_, rfl⟩
      rw [← hx] at e0 e1 e2 e3 e4 g0 g1 g2 g3 g4
      clear hx
      obtain ⟨x0, x1, x2, x3, x4⟩ := x
      simp only at e0 e1 e2 e3 e4 g0 g1 g2 g3 g4
      go_wp2_with fail
      go_quiet (fail)
      go_wp2
      go_roundw
      case rel => exact ⟨k + 1, by omega, by go_num, below_draws hbel _⟩
      case measure => simp [intOf]; omega
    · have hlt' : ¬ (k : Int) < n := by omega
      go_wp2
      go_ret
      exact ⟨rfl, hbel⟩

set_option maxRecDepth 100000 in
set_option maxHeartbeats 2000000 in
theorem keptTwigs_any (v : Value) (t : List Tw) (g : Nat) (w : World) (h : TwAt w v t) (hL : TLentAt w g t) (hl : t.length ≤ 1000000) :
    Calls Tryz.prog 27 #[.slice (some ⟨g, 0, none⟩) t.length (t.length + 12), v] w fun e w' => e = .returned (.bool true) ∧ Below w.heap.size w w' := by
  have H := Lib.hid h
  have HL := Lib.hid hL
  obtain ⟨ao, cap, rfl⟩ := h.val
  have hlc := h.cells.2.1
  clear h hL
  obtain ⟨n, hn⟩ : ∃ n, n = t.length := ⟨_, rfl⟩
  have Hn := Lib.hid hn
  rw [← hn] at hl hlc H ⊢
  clear hn
  go_enter Tryz.func27, Tryz.ntmps27
  go_wp2
  go_loopw [6] (fun i wr => ∃ k : Nat, k ≤ n + 12 ∧ i = .int .i64 k ∧ Below w.heap.size w wr) (fun i _ => n + 12 - (intOf i).toNat)
  case atStart => exact ⟨0, by omega, rfl, Below.refl _ _⟩
  case round =>
    obtain ⟨k, hk, rfl, hbel⟩ := hrel
    by_cases hlt : k < n + 12
    · have hlt' : (k : Int) < n + 12 := by omega
      have hg := fun c hc => (HL.out.later hbel).cell k (by rw [← Hn.out]; exact hlt) c hc
      by_cases hkn : k < n
      · obtain ⟨b, off, rfl, -, e0, e1, e2, e3, e4⟩ := (H.out.later hbel).cells.2.2.2.2 k (by rw [← Hn.out]; exact hkn)
        have he : (tmk t 12)[k]'(by rw [tmk_len, ← Hn.out]; exact hlt) = t[k]'(by rw [← Hn.out]; exact hkn) := by
          simp only [tmk]; rw [List.getElem_append_left]
        rw [he] at hg
        clear he
        obtain ⟨x, hx⟩ : ∃ x, x = t[k]'(by rw [← Hn.out]; exact hkn) := ⟨_, rfl⟩
        rw [← hx] at hg e0 e1 e2 e3 e4
        clear hx
        obtain ⟨x0, x1, x2, x3, x4⟩ := x
        simp only at e0 e1 e2 e3 e4
        have g0 : wr.cell? ⟨g, k * 5, none⟩ = some (.int .i64 x0) := hg 0 (by omega)
        have g1 : wr.cell? ⟨g, k * 5 + 1, none⟩ = some (.int .i64 x1) := hg 1 (by omega)
        have g2 : wr.cell? ⟨g, k * 5 + 2, none⟩ = some (.int .i64 x2) := hg 2 (by omega)
        have g3 : wr.cell? ⟨g, k * 5 + 3, none⟩ = some (.int .i64 x3) := hg 3 (by omega)
        have g4 : wr.cell? ⟨g, k * 5 + 4, none⟩ = some (.int .i64 x4) := hg 4 (by omega)
        clear hg
        have hkn' : (k : Int) < n := by omega
        have hnge : decide (n ≤ k) = false := by simp; omega
        go_wp2_with fail
        go_quiet (fail)
        go_wp2
        go_roundw
        case rel => exact ⟨k + 1, by omega, by go_num, below_draws hbel _⟩
        case measure => simp [intOf]; omega
      · have he : (tmk t 12)[k]'(by rw [tmk_len, ← Hn.out]; exact hlt) = ⟨8000024 + ((k : Int) - n), 0, 0, 0, 0⟩ := by
          have hge : t.length ≤ k := by rw [← Hn.out]; omega
          simp only [tmk]; rw [List.getElem_append_right hge]
          simp only [List.getElem_map, List.getElem_range]
          rw [← Hn.out]; congr 1; omega
        rw [he] at hg
        clear he
        have hkn' : ¬ (k : Int) < n := by omega
        have hnge : decide (n ≤ k) = true := by simp; omega
        have hnge1 : decide ((n : Int) ≤ k) = true := by simp; omega
        have hnge2 : decide (k < n) = false := by simp; omega
        have hnge3 : decide ((k : Int) < n) = false := by simp; omega
        have hw1 : IntKind.i64.wrap ((k : Int) - n) = (k : Int) - n := IntWalk.i64_in _ (by omega)
        have h0k : 0 ≤ (k : Int) - n ∧ (k : Int) - n ≤ 4000000 := by omega
        have Hmk := Lib.hid (fun wq => markTwig_any 1 ((k : Int) - n) wq (by omega) h0k)
        simp only [show (1000003 : Int) * (1 + 7) = 8000024 from rfl] at Hmk
        obtain ⟨m, hm⟩ : ∃ m, m = 8000024 + ((k : Int) - n) := ⟨_, rfl⟩
        rw [← hm] at hg Hmk
        clear hm h0k
        have g0 : wr.cell? ⟨g, k * 5, none⟩ = some (.int .i64 m) := hg 0 (by omega)
        have g1 : wr.cell? ⟨g, k * 5 + 1, none⟩ = some (.int .i64 0) := hg 1 (by omega)
        have g2 : wr.cell? ⟨g, k * 5 + 2, none⟩ = some (.int .i64 0) := hg 2 (by omega)
        have g3 : wr.cell? ⟨g, k * 5 + 3, none⟩ = some (.int .i64 0) := hg 3 (by omega)
        have g4 : wr.cell? ⟨g, k * 5 + 4, none⟩ = some (.int .i64 0) := hg 4 (by omega)
        clear hg
        go_wp2_with fail
        refine wp_region_held_drew (S := fun wq => Below wr.heap.size wr wq) (by kernel_rfl) ((Below.refl _ _).drew) (fun hS => ?_)
        refine wpAnyH_take (i := 0) (oi := ⟨_, _, _, _, _, _⟩) (v := ?v1) rfl (by kernel_rfl) (by kernel_rfl) (by kernel_rfl) (fun _ _ _ h => h) ?y1 hS ?_
        case y1 => first | (refine Or.inr ⟨by rfl, ?_⟩; with_reducible rfl) | (refine Or.inl ⟨by rfl, ?_⟩; intro wS hSw; have s0 := cell_later hSw g0; have s1 := cell_later hSw g1; have s2 := cell_later hSw g2; have s3 := cell_later hSw g3; have s4 := cell_later hSw g4; go_simp; try with_reducible rfl)
        simp only [Act.put, List.setIfInBounds_toArray, List.set_cons_zero, List.set_cons_succ]
        refine wpAnyH_take (i := 1) (oi := ⟨_, _, _, _, _, _⟩) (v := ?v2) rfl (by kernel_rfl) (by kernel_rfl) (by kernel_rfl) (fun _ _ _ h => h) ?y2 hS ?_
        case y2 => first | (refine Or.inr ⟨by rfl, ?_⟩; with_reducible rfl) | (refine Or.inl ⟨by rfl, ?_⟩; intro wS hSw; have s0 := cell_later hSw g0; have s1 := cell_later hSw g1; have s2 := cell_later hSw g2; have s3 := cell_later hSw g3; have s4 := cell_later hSw g4; go_simp; try with_reducible rfl)
        simp only [Act.put, List.setIfInBounds_toArray, List.set_cons_zero, List.set_cons_succ]
        refine wpAnyH_take (i := 2) (oi := ⟨_, _, _, _, _, _⟩) (v := ?v3) rfl (by kernel_rfl) (by kernel_rfl) (by kernel_rfl) (fun _ _ _ h => h) ?y3 hS ?_
        case y3 => first | (refine Or.inr ⟨by rfl, ?_⟩; with_reducible rfl) | (refine Or.inl ⟨by rfl, ?_⟩; intro wS hSw; have s0 := cell_later hSw g0; have s1 := cell_later hSw g1; have s2 := cell_later hSw g2; have s3 := cell_later hSw g3; have s4 := cell_later hSw g4; go_simp; try with_reducible rfl)
        simp only [Act.put, List.setIfInBounds_toArray, List.set_cons_zero, List.set_cons_succ]
        refine wpAnyH_take (i := 3) (oi := ⟨_, _, _, _, _, _⟩) (v := ?v4) rfl (by kernel_rfl) (by kernel_rfl) (by kernel_rfl) (fun _ _ _ h => h) ?y4 hS ?_
        case y4 => first | (refine Or.inr ⟨by rfl, ?_⟩; with_reducible rfl) | (refine Or.inl ⟨by rfl, ?_⟩; intro wS hSw; have s0 := cell_later hSw g0; have s1 := cell_later hSw g1; have s2 := cell_later hSw g2; have s3 := cell_later hSw g3; have s4 := cell_later hSw g4; go_simp; try with_reducible rfl)
        simp only [Act.put, List.setIfInBounds_toArray, List.set_cons_zero, List.set_cons_succ]
        refine wpAnyH_take (i := 4) (oi := ⟨_, _, _, _, _, _⟩) (v := ?v5) rfl (by kernel_rfl) (by kernel_rfl) (by kernel_rfl) (fun _ _ _ h => h) ?y5 hS ?_
        case y5 => first | (refine Or.inr ⟨by rfl, ?_⟩; with_reducible rfl) | (refine Or.inl ⟨by rfl, ?_⟩; intro wS hSw; have s0 := cell_later hSw g0; have s1 := cell_later hSw g1; have s2 := cell_later hSw g2; have s3 := cell_later hSw g3; have s4 := cell_later hSw g4; go_simp; try with_reducible rfl)
        simp only [Act.put, List.setIfInBounds_toArray, List.set_cons_zero, List.set_cons_succ]
        refine wpAnyH_take (i := 5) (oi := ⟨_, _, _, _, _, _⟩) (v := ?v6) rfl (by kernel_rfl) (by kernel_rfl) (by kernel_rfl) (fun _ _ _ h => h) ?y6 hS ?_
        case y6 => first | (refine Or.inr ⟨by rfl, ?_⟩; with_reducible rfl) | (refine Or.inl ⟨by rfl, ?_⟩; intro wS hSw; have s0 := cell_later hSw g0; have s1 := cell_later hSw g1; have s2 := cell_later hSw g2; have s3 := cell_later hSw g3; have s4 := cell_later hSw g4; go_simp; try with_reducible rfl)
        simp only [Act.put, List.setIfInBounds_toArray, List.set_cons_zero, List.set_cons_succ]
        refine wpAnyH_take (i := 6) (oi := ⟨_, _, _, _, _, _⟩) (v := ?v7) rfl (by kernel_rfl) (by kernel_rfl) (by kernel_rfl) (fun _ _ _ h => h) ?y7 hS ?_
        case y7 => first | (refine Or.inr ⟨by rfl, ?_⟩; with_reducible rfl) | (refine Or.inl ⟨by rfl, ?_⟩; intro wS hSw; have s0 := cell_later hSw g0; have s1 := cell_later hSw g1; have s2 := cell_later hSw g2; have s3 := cell_later hSw g3; have s4 := cell_later hSw g4; go_simp; try with_reducible rfl)
        simp only [Act.put, List.setIfInBounds_toArray, List.set_cons_zero, List.set_cons_succ]
        refine wpAnyH_take (i := 7) (oi := ⟨_, _, _, _, _, _⟩) (v := ?v8) rfl (by kernel_rfl) (by kernel_rfl) (by kernel_rfl) (fun _ _ _ h => h) ?y8 hS ?_
        case y8 => first | (refine Or.inr ⟨by rfl, ?_⟩; with_reducible rfl) | (refine Or.inl ⟨by rfl, ?_⟩; intro wS hSw; have s0 := cell_later hSw g0; have s1 := cell_later hSw g1; have s2 := cell_later hSw g2; have s3 := cell_later hSw g3; have s4 := cell_later hSw g4; go_simp; try with_reducible rfl)
        simp only [Act.put, List.setIfInBounds_toArray, List.set_cons_zero, List.set_cons_succ]
        refine wpAnyH_take (i := 8) (oi := ⟨_, _, _, _, _, _⟩) (v := ?v9) rfl (by kernel_rfl) (by kernel_rfl) (by kernel_rfl) (fun _ _ _ h => h) ?y9 hS ?_
        case y9 => first | (refine Or.inr ⟨by rfl, ?_⟩; with_reducible rfl) | (refine Or.inl ⟨by rfl, ?_⟩; intro wS hSw; have s0 := cell_later hSw g0; have s1 := cell_later hSw g1; have s2 := cell_later hSw g2; have s3 := cell_later hSw g3; have s4 := cell_later hSw g4; go_simp; try with_reducible rfl)
        simp only [Act.put, List.setIfInBounds_toArray, List.set_cons_zero, List.set_cons_succ]
        refine wpAnyH_take (i := 9) (oi := ⟨_, _, _, _, _, _⟩) (v := ?v10) rfl (by kernel_rfl) (by kernel_rfl) (by kernel_rfl) (fun _ _ _ h => h) ?y10 hS ?_
        case y10 => first | (refine Or.inr ⟨by rfl, ?_⟩; with_reducible rfl) | (refine Or.inl ⟨by rfl, ?_⟩; intro wS hSw; have s0 := cell_later hSw g0; have s1 := cell_later hSw g1; have s2 := cell_later hSw g2; have s3 := cell_later hSw g3; have s4 := cell_later hSw g4; go_simp; try with_reducible rfl)
        simp only [Act.put, List.setIfInBounds_toArray, List.set_cons_zero, List.set_cons_succ]
        refine wpAnyH_take (i := 10) (oi := ⟨_, _, _, _, _, _⟩) (v := ?v11) rfl (by kernel_rfl) (by kernel_rfl) (by kernel_rfl) (fun _ _ _ h => h) ?y11 hS ?_
        case y11 => first | (refine Or.inr ⟨by rfl, ?_⟩; with_reducible rfl) | (refine Or.inl ⟨by rfl, ?_⟩; intro wS hSw; have s0 := cell_later hSw g0; have s1 := cell_later hSw g1; have s2 := cell_later hSw g2; have s3 := cell_later hSw g3; have s4 := cell_later hSw g4; go_simp; try with_reducible rfl)
        simp only [Act.put, List.setIfInBounds_toArray, List.set_cons_zero, List.set_cons_succ]
        refine wpAnyH_take (i := 11) (oi := ⟨_, _, _, _, _, _⟩) (v := ?v12) rfl (by kernel_rfl) (by kernel_rfl) (by kernel_rfl) (fun _ _ _ h => h) ?y12 hS ?_
        case y12 => first | (refine Or.inr ⟨by rfl, ?_⟩; with_reducible rfl) | (refine Or.inl ⟨by rfl, ?_⟩; intro wS hSw; have s0 := cell_later hSw g0; have s1 := cell_later hSw g1; have s2 := cell_later hSw g2; have s3 := cell_later hSw g3; have s4 := cell_later hSw g4; go_simp; try with_reducible rfl)
        simp only [Act.put, List.setIfInBounds_toArray, List.set_cons_zero, List.set_cons_succ]
        refine wpAnyH_take (i := 12) (oi := ⟨_, _, _, _, _, _⟩) (v := ?v13) rfl (by kernel_rfl) (by kernel_rfl) (by kernel_rfl) (fun _ _ _ h => h) ?y13 hS ?_
        case y13 => first | (refine Or.inr ⟨by rfl, ?_⟩; with_reducible rfl) | (refine Or.inl ⟨by rfl, ?_⟩; intro wS hSw; have s0 := cell_later hSw g0; have s1 := cell_later hSw g1; have s2 := cell_later hSw g2; have s3 := cell_later hSw g3; have s4 := cell_later hSw g4; go_simp; try with_reducible rfl)
        simp only [Act.put, List.setIfInBounds_toArray, List.set_cons_zero, List.set_cons_succ]
        refine wpAnyH_take (i := 13) (oi := ⟨_, _, _, _, _, _⟩) (v := ?v14) rfl (by kernel_rfl) (by kernel_rfl) (by kernel_rfl) (fun _ _ _ h => h) ?y14 hS ?_
        case y14 => first | (refine Or.inr ⟨by rfl, ?_⟩; with_reducible rfl) | (refine Or.inl ⟨by rfl, ?_⟩; intro wS hSw; have s0 := cell_later hSw g0; have s1 := cell_later hSw g1; have s2 := cell_later hSw g2; have s3 := cell_later hSw g3; have s4 := cell_later hSw g4; go_simp; try with_reducible rfl)
        simp only [Act.put, List.setIfInBounds_toArray, List.set_cons_zero, List.set_cons_succ]
        refine wpAnyH_take (i := 14) (oi := ⟨_, _, _, _, _, _⟩) (v := ?v15) rfl (by kernel_rfl) (by kernel_rfl) (by kernel_rfl) (fun _ _ _ h => h) ?y15 hS ?_
        case y15 => first | (refine Or.inr ⟨by rfl, ?_⟩; with_reducible rfl) | (refine Or.inl ⟨by rfl, ?_⟩; intro wS hSw; have s0 := cell_later hSw g0; have s1 := cell_later hSw g1; have s2 := cell_later hSw g2; have s3 := cell_later hSw g3; have s4 := cell_later hSw g4; go_simp; try with_reducible rfl)
        simp only [Act.put, List.setIfInBounds_toArray, List.set_cons_zero, List.set_cons_succ]
        refine wpAnyH_take (i := 15) (oi := ⟨_, _, _, _, _, _⟩) (v := ?v16) rfl (by kernel_rfl) (by kernel_rfl) (by kernel_rfl) (fun _ _ _ h => h) ?y16 hS ?_
        case y16 => first | (refine Or.inr ⟨by rfl, ?_⟩; with_reducible rfl) | (refine Or.inl ⟨by rfl, ?_⟩; intro wS hSw; have s0 := cell_later hSw g0; have s1 := cell_later hSw g1; have s2 := cell_later hSw g2; have s3 := cell_later hSw g3; have s4 := cell_later hSw g4; go_simp; try with_reducible rfl)
        simp only [Act.put, List.setIfInBounds_toArray, List.set_cons_zero, List.set_cons_succ]
        refine wpAnyH_take (i := 16) (oi := ⟨_, _, _, _, _, _⟩) (v := ?v17) rfl (by kernel_rfl) (by kernel_rfl) (by kernel_rfl) (fun _ _ _ h => h) ?y17 hS ?_
        case y17 => first | (refine Or.inr ⟨by rfl, ?_⟩; with_reducible rfl) | (refine Or.inl ⟨by rfl, ?_⟩; intro wS hSw; have s0 := cell_later hSw g0; have s1 := cell_later hSw g1; have s2 := cell_later hSw g2; have s3 := cell_later hSw g3; have s4 := cell_later hSw g4; go_simp; try with_reducible rfl)
        simp only [Act.put, List.setIfInBounds_toArray, List.set_cons_zero, List.set_cons_succ]
        refine wpAnyH_take (i := 17) (oi := ⟨_, _, _, _, _, _⟩) (v := ?v18) rfl (by kernel_rfl) (by kernel_rfl) (by kernel_rfl) (fun _ _ _ h => h) ?y18 hS ?_
        case y18 => first | (refine Or.inr ⟨by rfl, ?_⟩; with_reducible rfl) | (refine Or.inl ⟨by rfl, ?_⟩; intro wS hSw; have s0 := cell_later hSw g0; have s1 := cell_later hSw g1; have s2 := cell_later hSw g2; have s3 := cell_later hSw g3; have s4 := cell_later hSw g4; go_simp; try with_reducible rfl)
        simp only [Act.put, List.setIfInBounds_toArray, List.set_cons_zero, List.set_cons_succ]
        refine wpAnyH_take (i := 18) (oi := ⟨_, _, _, _, _, _⟩) (v := ?v19) rfl (by kernel_rfl) (by kernel_rfl) (by kernel_rfl) (fun _ _ _ h => h) ?y19 hS ?_
        case y19 => first | (refine Or.inr ⟨by rfl, ?_⟩; with_reducible rfl) | (refine Or.inl ⟨by rfl, ?_⟩; intro wS hSw; have s0 := cell_later hSw g0; have s1 := cell_later hSw g1; have s2 := cell_later hSw g2; have s3 := cell_later hSw g3; have s4 := cell_later hSw g4; go_simp; try with_reducible rfl)
        simp only [Act.put, List.setIfInBounds_toArray, List.set_cons_zero, List.set_cons_succ]
        refine wpAnyH_take (i := 19) (oi := ⟨_, _, _, _, _, _⟩) (v := ?v20) rfl (by kernel_rfl) (by kernel_rfl) (by kernel_rfl) (fun _ _ _ h => h) ?y20 hS ?_
        case y20 => first | (refine Or.inr ⟨by rfl, ?_⟩; with_reducible rfl) | (refine Or.inl ⟨by rfl, ?_⟩; intro wS hSw; have s0 := cell_later hSw g0; have s1 := cell_later hSw g1; have s2 := cell_later hSw g2; have s3 := cell_later hSw g3; have s4 := cell_later hSw g4; go_simp; try with_reducible rfl)
        simp only [Act.put, List.setIfInBounds_toArray, List.set_cons_zero, List.set_cons_succ]
        refine wpAnyH_take (i := 20) (oi := ⟨_, _, _, _, _, _⟩) (v := ?v21) rfl (by kernel_rfl) (by kernel_rfl) (by kernel_rfl) (fun _ _ _ h => h) ?y21 hS ?_
        case y21 => first | (refine Or.inr ⟨by rfl, ?_⟩; with_reducible rfl) | (refine Or.inl ⟨by rfl, ?_⟩; intro wS hSw; have s0 := cell_later hSw g0; have s1 := cell_later hSw g1; have s2 := cell_later hSw g2; have s3 := cell_later hSw g3; have s4 := cell_later hSw g4; go_simp; try with_reducible rfl)
        simp only [Act.put, List.setIfInBounds_toArray, List.set_cons_zero, List.set_cons_succ]
        refine wpAnyH_take (i := 21) (oi := ⟨_, _, _, _, _, _⟩) (v := ?v22) rfl (by kernel_rfl) (by kernel_rfl) (by kernel_rfl) (fun _ _ _ h => h) ?y22 hS ?_
        case y22 => first | (refine Or.inr ⟨by rfl, ?_⟩; with_reducible rfl) | (refine Or.inl ⟨by rfl, ?_⟩; intro wS hSw; have s0 := cell_later hSw g0; have s1 := cell_later hSw g1; have s2 := cell_later hSw g2; have s3 := cell_later hSw g3; have s4 := cell_later hSw g4; go_simp; try with_reducible rfl)
        simp only [Act.put, List.setIfInBounds_toArray, List.set_cons_zero, List.set_cons_succ]
        refine wpAnyH_take (i := 22) (oi := ⟨_, _, _, _, _, _⟩) (v := ?v23) rfl (by kernel_rfl) (by kernel_rfl) (by kernel_rfl) (fun _ _ _ h => h) ?y23 hS ?_
        case y23 => first | (refine Or.inr ⟨by rfl, ?_⟩; with_reducible rfl) | (refine Or.inl ⟨by rfl, ?_⟩; intro wS hSw; have s0 := cell_later hSw g0; have s1 := cell_later hSw g1; have s2 := cell_later hSw g2; have s3 := cell_later hSw g3; have s4 := cell_later hSw g4; go_simp; try with_reducible rfl)
        simp only [Act.put, List.setIfInBounds_toArray, List.set_cons_zero, List.set_cons_succ]
        refine wpAnyH_take (i := 23) (oi := ⟨_, _, _, _, _, _⟩) (v := ?v24) rfl (by kernel_rfl) (by kernel_rfl) (by kernel_rfl) (fun _ _ _ h => h) ?y24 hS ?_
        case y24 => first | (refine Or.inr ⟨by rfl, ?_⟩; with_reducible rfl) | (refine Or.inl ⟨by rfl, ?_⟩; intro wS hSw; have s0 := cell_later hSw g0; have s1 := cell_later hSw g1; have s2 := cell_later hSw g2; have s3 := cell_later hSw g3; have s4 := cell_later hSw g4; go_simp; try with_reducible rfl)
        simp only [Act.put, List.setIfInBounds_toArray, List.set_cons_zero, List.set_cons_succ]
        refine wpAnyH_take (i := 24) (oi := ⟨_, _, _, _, _, _⟩) (v := ?v25) rfl (by kernel_rfl) (by kernel_rfl) (by kernel_rfl) (fun _ _ _ h => h) ?y25 hS ?_
        case y25 => first | (refine Or.inr ⟨by rfl, ?_⟩; with_reducible rfl) | (refine Or.inl ⟨by rfl, ?_⟩; intro wS hSw; have s0 := cell_later hSw g0; have s1 := cell_later hSw g1; have s2 := cell_later hSw g2; have s3 := cell_later hSw g3; have s4 := cell_later hSw g4; go_simp; try with_reducible rfl)
        simp only [Act.put, List.setIfInBounds_toArray, List.set_cons_zero, List.set_cons_succ]
        refine wpAnyH_take (i := 25) (oi := ⟨_, _, _, _, _, _⟩) (v := ?v26) rfl (by kernel_rfl) (by kernel_rfl) (by kernel_rfl) (fun _ _ _ h => h) ?y26 hS ?_
        case y26 => first | (refine Or.inr ⟨by rfl, ?_⟩; with_reducible rfl) | (refine Or.inl ⟨by rfl, ?_⟩; intro wS hSw; have s0 := cell_later hSw g0; have s1 := cell_later hSw g1; have s2 := cell_later hSw g2; have s3 := cell_later hSw g3; have s4 := cell_later hSw g4; go_simp; try with_reducible rfl)
        simp only [Act.put, List.setIfInBounds_toArray, List.set_cons_zero, List.set_cons_succ]
        refine wpAnyH_take (i := 26) (oi := ⟨_, _, _, _, _, _⟩) (v := ?v27) rfl (by kernel_rfl) (by kernel_rfl) (by kernel_rfl) (fun _ _ _ h => h) ?y27 hS ?_
        case y27 => first | (refine Or.inr ⟨by rfl, ?_⟩; with_reducible rfl) | (refine Or.inl ⟨by rfl, ?_⟩; intro wS hSw; have s0 := cell_later hSw g0; have s1 := cell_later hSw g1; have s2 := cell_later hSw g2; have s3 := cell_later hSw g3; have s4 := cell_later hSw g4; go_simp; try with_reducible rfl)
        simp only [Act.put, List.setIfInBounds_toArray, List.set_cons_zero, List.set_cons_succ]
        refine wpAnyH_take (i := 27) (oi := ⟨_, _, _, _, _, _⟩) (v := ?v28) rfl (by kernel_rfl) (by kernel_rfl) (by kernel_rfl) (fun _ _ _ h => h) ?y28 hS ?_
        case y28 => first | (refine Or.inr ⟨by rfl, ?_⟩; with_reducible rfl) | (refine Or.inl ⟨by rfl, ?_⟩; intro wS hSw; have s0 := cell_later hSw g0; have s1 := cell_later hSw g1; have s2 := cell_later hSw g2; have s3 := cell_later hSw g3; have s4 := cell_later hSw g4; go_simp; try with_reducible rfl)
        simp only [Act.put, List.setIfInBounds_toArray, List.set_cons_zero, List.set_cons_succ]
        refine wpAnyH_take (i := 28) (oi := ⟨_, _, _, _, _, _⟩) (v := ?v29) rfl (by kernel_rfl) (by kernel_rfl) (by kernel_rfl) (fun _ _ _ h => h) ?y29 hS ?_
        case y29 => first | (refine Or.inr ⟨by rfl, ?_⟩; with_reducible rfl) | (refine Or.inl ⟨by rfl, ?_⟩; intro wS hSw; have s0 := cell_later hSw g0; have s1 := cell_later hSw g1; have s2 := cell_later hSw g2; have s3 := cell_later hSw g3; have s4 := cell_later hSw g4; go_simp; try with_reducible rfl)
        simp only [Act.put, List.setIfInBounds_toArray, List.set_cons_zero, List.set_cons_succ]
        refine wpAnyH_take (i := 29) (oi := ⟨_, _, _, _, _, _⟩) (v := ?v30) rfl (by kernel_rfl) (by kernel_rfl) (by kernel_rfl) (fun _ _ _ h => h) ?y30 hS ?_
        case y30 => first | (refine Or.inr ⟨by rfl, ?_⟩; with_reducible rfl) | (refine Or.inl ⟨by rfl, ?_⟩; intro wS hSw; have s0 := cell_later hSw g0; have s1 := cell_later hSw g1; have s2 := cell_later hSw g2; have s3 := cell_later hSw g3; have s4 := cell_later hSw g4; go_simp; try with_reducible rfl)
        simp only [Act.put, List.setIfInBounds_toArray, List.set_cons_zero, List.set_cons_succ]
        refine wpAnyH_ready (rs := [30]) (by kernel_rfl) (by simp) ?_
        refine AllReadyH.cons (o := ⟨_, _, _, _, _, _⟩) rfl (fun K hK => ?_) AllReadyH.nil
        go_simp
        refine (Hmk.out _).mono ?_
        rintro e wx ⟨rfl, hbx⟩; have hS := hS.trans (hbx.mono hS.size)
        go_wp2_with fail
        refine hK.out _ _ hS (fun _ => ?_)
        clear hK K
        try simp only [Act.put, List.setIfInBounds_toArray, List.set_cons_zero, List.set_cons_succ]
        refine wpAnyH_take (i := 31) (oi := ⟨_, _, _, _, _, _⟩) (v := ?v31) rfl (by kernel_rfl) (by kernel_rfl) (by kernel_rfl) (fun _ _ _ h => h) ?y31 hS ?_
        case y31 => first | (refine Or.inr ⟨by rfl, ?_⟩; with_reducible rfl) | (refine Or.inl ⟨by rfl, ?_⟩; intro wS hSw; have s0 := cell_later hSw g0; have s1 := cell_later hSw g1; have s2 := cell_later hSw g2; have s3 := cell_later hSw g3; have s4 := cell_later hSw g4; go_simp; try with_reducible rfl)
        simp only [Act.put, List.setIfInBounds_toArray, List.set_cons_zero, List.set_cons_succ]
        refine wpAnyH_take (i := 32) (oi := ⟨_, _, _, _, _, _⟩) (v := ?v32) rfl (by kernel_rfl) (by kernel_rfl) (by kernel_rfl) (fun _ _ _ h => h) ?y32 hS ?_
        case y32 => first | (refine Or.inr ⟨by rfl, ?_⟩; with_reducible rfl) | (refine Or.inl ⟨by rfl, ?_⟩; intro wS hSw; have s0 := cell_later hSw g0; have s1 := cell_later hSw g1; have s2 := cell_later hSw g2; have s3 := cell_later hSw g3; have s4 := cell_later hSw g4; go_simp; try with_reducible rfl)
        simp only [Act.put, List.setIfInBounds_toArray, List.set_cons_zero, List.set_cons_succ]
        refine wpAnyH_take (i := 33) (oi := ⟨_, _, _, _, _, _⟩) (v := ?v33) rfl (by kernel_rfl) (by kernel_rfl) (by kernel_rfl) (fun _ _ _ h => h) ?y33 hS ?_
        case y33 => first | (refine Or.inr ⟨by rfl, ?_⟩; with_reducible rfl) | (refine Or.inl ⟨by rfl, ?_⟩; intro wS hSw; have s0 := cell_later hSw g0; have s1 := cell_later hSw g1; have s2 := cell_later hSw g2; have s3 := cell_later hSw g3; have s4 := cell_later hSw g4; go_simp; try with_reducible rfl)
        simp only [Act.put, List.setIfInBounds_toArray, List.set_cons_zero, List.set_cons_succ]
        refine wpAnyH_take (i := 34) (oi := ⟨_, _, _, _, _, _⟩) (v := ?v34) rfl (by kernel_rfl) (by kernel_rfl) (by kernel_rfl) (fun _ _ _ h => h) ?y34 hS ?_
        case y34 => first | (refine Or.inr ⟨by rfl, ?_⟩; with_reducible rfl) | (refine Or.inl ⟨by rfl, ?_⟩; intro wS hSw; have s0 := cell_later hSw g0; have s1 := cell_later hSw g1; have s2 := cell_later hSw g2; have s3 := cell_later hSw g3; have s4 := cell_later hSw g4; go_simp; try with_reducible rfl)
        simp only [Act.put, List.setIfInBounds_toArray, List.set_cons_zero, List.set_cons_succ]
        refine wpAnyH_done (by kernel_rfl) ?_ _
        have hbel2 := hbel.trans (hS.mono hbel.size)
        clear hS
        go_wp2
        go_roundw
        case rel => exact ⟨k + 1, by omega, by go_num, hbel2⟩
        case measure => simp [intOf]; omega
    · have hlt' : ¬ (k : Int) < n + 12 := by omega
      go_wp2
      go_ret
      exact ⟨rfl, hbel⟩

set_option maxHeartbeats 1000000 in
theorem overTwigs_any (n : Nat) (g : Nat) (cur : Array Value) (w : World) (hL : w.heap[g]? = some (.cells cur 45 (0, 0))) (hs : cur.size = (n + 12) * 5) (hl : n ≤ 1000000) :
    Calls Tryz.prog 26 #[.slice (some ⟨g, 0, none⟩) n (n + 12)] w fun e w' => e = .returned (.tuple #[]) ∧ Keeps (fun k => k = g) w w' := by
  have HL := Lib.hid hL
  have Hs := Lib.hid hs
  clear hL hs
  go_enter Tryz.func26, Tryz.ntmps26
  go_wp2
  go_loopw [3] (fun i wr => ∃ (k : Nat) (cr : Array Value), k ≤ n + 12 ∧ i = .int .i64 k ∧ Keeps (fun k => k = g) w wr ∧ wr.heap[g]? = some (.cells cr 45 (0, 0)) ∧ cr.size = (n + 12) * 5) (fun i _ => n + 12 - (intOf i).toNat)
  case atStart => exact ⟨0, cur, by omega, rfl, Keeps.refl _ _, HL.out, Hs.out⟩
  case round =>
    obtain ⟨k, cr, hk, rfl, hgr, hblk, hcs⟩ := hrel
    by_cases hlt : k < n + 12
    · have hlt' : (k : Int) < n + 12 := by omega
      have Hb := Lib.hid hblk
      have Hcs := Lib.hid hcs
      clear hblk hcs
      go_wp2_with fail
      refine (markTwig_any 2 k wr (by omega) (by omega)).mono ?_
      rintro e w5 ⟨rfl, hb5⟩
      have hblk := (hb5.block _ (lt_of_block Hb.out)).trans Hb.out
      have hc : ∀ c, c < 5 → ∃ u, w5.cell? ⟨g, k * 5 + c, none⟩ = some u := fun c hc => by
        rw [(block_cell' hblk _).1]
        exact ⟨_, Array.getElem?_eq_getElem (by rw [Hcs.out]; omega)⟩
      have hf : ∀ c, w5.frozen? ⟨g, k * 5 + c, none⟩ = false := fun c => (block_cell' hblk _).2
      obtain ⟨u0, c0⟩ := hc 0 (by omega)
      obtain ⟨u1, c1⟩ := hc 1 (by omega)
      obtain ⟨u2, c2⟩ := hc 2 (by omega)
      obtain ⟨u3, c3⟩ := hc 3 (by omega)
      obtain ⟨u4, c4⟩ := hc 4 (by omega)
      have f0 := hf 0
      have f1 := hf 1
      have f2 := hf 2
      have f3 := hf 3
      have f4 := hf 4
      simp only [Nat.add_zero] at c0 f0
      have hgr5 := hgr.trans (Keeps.ofNew hb5 _)
      have Hblk := Lib.hid hblk
      have Hgr5 := Lib.hid hgr5
      clear hc hf hblk hgr5 hb5
      go_wp2
      go_roundw
      case rel => exact ⟨k + 1, _, by omega, by go_num, ((((Hgr5.out.setCell (p := ⟨g, k * 5, none⟩) rfl _).setCell (p := ⟨g, k * 5 + 1, none⟩) rfl _).setCell (p := ⟨g, k * 5 + 2, none⟩) rfl _).setCell (p := ⟨g, k * 5 + 3, none⟩) rfl _).setCell (p := ⟨g, k * 5 + 4, none⟩) rfl _, block_setCell' (block_setCell' (block_setCell' (block_setCell' (block_setCell' Hblk.out)))), by simp [Hcs.out]⟩
      case measure => simp [intOf]; omega
    · have hlt' : ¬ (k : Int) < n + 12 := by omega
      go_wp2
      go_end0
      exact ⟨rfl, hgr⟩
end Go.Proofs.YtadkjjpopmiceaaGreat
