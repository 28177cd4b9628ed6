/-
  tree.Path.
-/
import Derived.Test.YtadkjjpopmiceaaTrJ
namespace Go.Proofs.Ytadkjjpopmiceaa
open Go.RowKit Go.Lib

set_option maxRecDepth 100000 in
set_option maxHeartbeats 1000000 in
theorem pathOn_any {l : List Tw} {v : Value} {bl bp : Nat} {pl : Int} {T1 T2 : TypeId} (x : Nat) (w : World) (h : TwRow w v l) (hx : x < l.length) (hbl : w.heap[bl]? = some (.cells #[v] T1 (0, 0))) (hbp : w.heap[bp]? = some (.cells #[.int .i64 pl] T2 (0, 0))) :
    Calls Try.prog 40 #[.int .i64 x, .pointer (some ⟨bl, 0, none⟩), .pointer (some ⟨bp, 0, none⟩)] w fun en w' => en = .returned (.bool (shB (atT l x).fr (atT l x).to pl)) ∧ Below w.heap.size w w' := by
  obtain ⟨ao, cap, rfl⟩ := h.at'.val
  obtain ⟨b, off, rfl, hbw, -, -, e2, e3, -⟩ := h.at'.cells.2.2.2.2 x hx
  rw [← atT_get l hx] at e2 e3
  have cB := (block_cell' hbl 0).1
  have cP := (block_cell' hbp 0).1
  obtain ⟨n, hn⟩ : ∃ n, n = l.length := ⟨_, rfl⟩
  obtain ⟨a, ha⟩ : ∃ a, a = (atT l x).fr := ⟨_, rfl⟩
  obtain ⟨c, hc⟩ : ∃ c, c = (atT l x).to := ⟨_, rfl⟩
  rw [← hn] at cB
  rw [← ha, ← hc]
  rw [← ha] at e2
  rw [← hc] at e3
  have hx2 : (x : Int) < n := by omega
  have hx0 : (0 : Int) ≤ x := by omega
  have HH := Lib.hid (show ∀ u2, Below w.heap.size w u2 → Calls Try.prog 41 #[.agg #[.int .i64 a, .int .i64 c], .int .i64 pl] u2 fun e w' => e = .returned (.bool (shB a c pl)) ∧ Below w.heap.size w w' from fun u2 hu2 => (sHas_any a c pl u2).mono fun e w' hh => ⟨hh.1, hu2.trans (hh.2.mono hu2.size)⟩)
  clear h hx hbl hbp hn ha hc
  go_enter Try.func40, Try.ntmps40
  go_upto_region 1 with (fail)
  refine wp_region_held_drew (S := fun u2 => Below w.heap.size w u2) (by kernel_rfl) ((Below.refl _ _).drew) (fun hS => ?_)
  refine wpAnyH_take (i := 0) (oi := ⟨_, _, _, _, _, _⟩) (v := ?v1) rfl (by kernel_rfl) (by kernel_rfl) (by kernel_rfl) (fun _ _ _ h => h) ?y1 hS ?_
  case y1 => first | (refine Or.inr ⟨by rfl, ?_⟩; with_reducible rfl) | (refine Or.inl ⟨by rfl, ?_⟩; intro wS hSw; have s0 := cell_later hSw cB; have s1 := cell_later hSw cP; have s2 := cell_later hSw e2; have s3 := cell_later hSw e3; go_simp; try with_reducible rfl)
  simp only [Act.put, List.setIfInBounds_toArray, List.set_cons_zero, List.set_cons_succ]
  refine wpAnyH_take (i := 1) (oi := ⟨_, _, _, _, _, _⟩) (v := ?v2) rfl (by kernel_rfl) (by kernel_rfl) (by kernel_rfl) (fun _ _ _ h => h) ?y2 hS ?_
  case y2 => first | (refine Or.inr ⟨by rfl, ?_⟩; with_reducible rfl) | (refine Or.inl ⟨by rfl, ?_⟩; intro wS hSw; have s0 := cell_later hSw cB; have s1 := cell_later hSw cP; have s2 := cell_later hSw e2; have s3 := cell_later hSw e3; go_simp; try with_reducible rfl)
  simp only [Act.put, List.setIfInBounds_toArray, List.set_cons_zero, List.set_cons_succ]
  refine wpAnyH_take (i := 2) (oi := ⟨_, _, _, _, _, _⟩) (v := ?v3) rfl (by kernel_rfl) (by kernel_rfl) (by kernel_rfl) (fun _ _ _ h => h) ?y3 hS ?_
  case y3 => first | (refine Or.inr ⟨by rfl, ?_⟩; with_reducible rfl) | (refine Or.inl ⟨by rfl, ?_⟩; intro wS hSw; have s0 := cell_later hSw cB; have s1 := cell_later hSw cP; have s2 := cell_later hSw e2; have s3 := cell_later hSw e3; go_simp; try with_reducible rfl)
  simp only [Act.put, List.setIfInBounds_toArray, List.set_cons_zero, List.set_cons_succ]
  refine wpAnyH_take (i := 3) (oi := ⟨_, _, _, _, _, _⟩) (v := ?v4) rfl (by kernel_rfl) (by kernel_rfl) (by kernel_rfl) (fun _ _ _ h => h) ?y4 hS ?_
  case y4 => first | (refine Or.inr ⟨by rfl, ?_⟩; with_reducible rfl) | (refine Or.inl ⟨by rfl, ?_⟩; intro wS hSw; have s0 := cell_later hSw cB; have s1 := cell_later hSw cP; have s2 := cell_later hSw e2; have s3 := cell_later hSw e3; go_simp; try with_reducible rfl)
  simp only [Act.put, List.setIfInBounds_toArray, List.set_cons_zero, List.set_cons_succ]
  refine wpAnyH_take (i := 4) (oi := ⟨_, _, _, _, _, _⟩) (v := ?v5) rfl (by kernel_rfl) (by kernel_rfl) (by kernel_rfl) (fun _ _ _ h => h) ?y5 hS ?_
  case y5 => first | (refine Or.inr ⟨by rfl, ?_⟩; with_reducible rfl) | (refine Or.inl ⟨by rfl, ?_⟩; intro wS hSw; have s0 := cell_later hSw cB; have s1 := cell_later hSw cP; have s2 := cell_later hSw e2; have s3 := cell_later hSw e3; go_simp; try with_reducible rfl)
  simp only [Act.put, List.setIfInBounds_toArray, List.set_cons_zero, List.set_cons_succ]
  refine wpAnyH_take (i := 5) (oi := ⟨_, _, _, _, _, _⟩) (v := ?v6) rfl (by kernel_rfl) (by kernel_rfl) (by kernel_rfl) (fun _ _ _ h => h) ?y6 hS ?_
  case y6 => first | (refine Or.inr ⟨by rfl, ?_⟩; with_reducible rfl) | (refine Or.inl ⟨by rfl, ?_⟩; intro wS hSw; have s0 := cell_later hSw cB; have s1 := cell_later hSw cP; have s2 := cell_later hSw e2; have s3 := cell_later hSw e3; go_simp; try with_reducible rfl)
  simp only [Act.put, List.setIfInBounds_toArray, List.set_cons_zero, List.set_cons_succ]
  refine wpAnyH_ready (rs := [6]) (by kernel_rfl) (by simp) ?_
  refine AllReadyH.cons (o := ⟨_, _, _, _, _, _⟩) rfl (fun K hK => ?_) AllReadyH.nil
  go_simp
  refine (HH.out _ hS).mono ?_
  rintro e wx ⟨rfl, hS⟩
  go_wp2_with fail
  refine hK.out _ _ hS (fun _ => ?_)
  clear hK K
  try simp only [Act.put, List.setIfInBounds_toArray, List.set_cons_zero, List.set_cons_succ]
  refine wpAnyH_take (i := 7) (oi := ⟨_, _, _, _, _, _⟩) (v := ?v7) rfl (by kernel_rfl) (by kernel_rfl) (by kernel_rfl) (fun _ _ _ h => h) ?y7 hS ?_
  case y7 => first | (refine Or.inr ⟨by rfl, ?_⟩; with_reducible rfl) | (refine Or.inl ⟨by rfl, ?_⟩; intro wS hSw; have s0 := cell_later hSw cB; have s1 := cell_later hSw cP; have s2 := cell_later hSw e2; have s3 := cell_later hSw e3; go_simp; try with_reducible rfl)
  simp only [Act.put, List.setIfInBounds_toArray, List.set_cons_zero, List.set_cons_succ]
  refine wpAnyH_done (by kernel_rfl) ?_ _
  have HS := Lib.hid hS
  clear hS HH
  go_wp2
  go_ret
  exact ⟨rfl, HS.out⟩
/-- the first that answers yes. -/
def IdxN (rs : List Nat) (p : Nat → Bool) (en : Ending) : Prop := ∃ r : Int, en = .returned (.int .i64 r) ∧ ((rs.find? p = none ∧ r = -1) ∨ ∃ (i : Nat) (h : i < rs.length), rs.find? p = some rs[i] ∧ r = i)
theorem find_snoc {p : Nat → Bool} {rs : List Nat} {k : Nat} (hk : k < rs.length) (h : (rs.take k).find? p = none) (hp : p rs[k] = true) : rs.find? p = some rs[k] := by
  conv => lhs; rw [← List.take_append_drop k rs]
  rw [List.find?_append, h, List.drop_eq_getElem_cons hk, List.find?_cons, hp]
  rfl
set_option maxRecDepth 100000 in
set_option maxHeartbeats 1000000 in
theorem idxN_any (B : Nat) (v : Value) (rs : List Nat) (p : Nat → Bool) (cl : Array Value) (w : World) (h : OwnN B w v rs)
    (hc : ∀ x ∈ rs, ∀ u, Below w.heap.size w u → Calls Try.prog 40 (#[.int .i64 (x : Int)] ++ cl) u fun e w' => e = .returned (.bool (p x)) ∧ Below u.heap.size u w') (hcl : ∃ a b, cl = #[.pointer a, .pointer b]) :
    Calls Try.prog 44 #[v, .func (.func 40) #[] cl] w fun e w' => IdxN rs p e ∧ Below w.heap.size w w' := by
  obtain ⟨ca, cb, rfl⟩ := hcl
  have hcA := own_cells (nats_one rs) (by unfold OwnN at h; exact h)
  obtain ⟨ao, b, off, cap, rfl, hlc, hm, -, hao, hbs, hcc⟩ := hcA
  simp only [List.length_map] at hlc hao hbs hcc ⊢
  unfold maxLen at hm
  obtain ⟨n, hn⟩ : ∃ n, n = rs.length := ⟨_, rfl⟩
  have HN := Lib.hid hn
  have HC := Lib.hid hc
  have HA := Lib.hid hao
  have HB := Lib.hid hbs
  have HCC := Lib.hid hcc
  rw [← hn] at hlc ⊢
  clear h hc hao hbs hcc hn
  go_enter Try.func44, Try.ntmps44
  go_wp2
  go_loopw [8] (fun i wr => ∃ k : Nat, k ≤ n ∧ i = .int .i64 k ∧ Below w.heap.size w wr ∧ Hid ((rs.take k).find? p = none)) (fun i _ => n - (intOf i).toNat)
  case atStart => exact ⟨0, Nat.zero_le _, rfl, Below.refl _ _, Lib.hid (by simp)⟩
  case round =>
    obtain ⟨k, hk, rfl, hbel, HT⟩ := hrel
    by_cases hlt : k < n
    · have hlt2 : (k : Int) < n := by omega
      have hkE : k < rs.length := by rw [← HN.out]; exact hlt
      have hao := HA.out (by omega)
      subst hao
      have hbw : b < w.heap.size := World.block_lt_of_cell? (a := ⟨b, _, none⟩) _ (HCC.out k hkE)
      have c0 := (hbel.cell (p := ⟨b, off + k, none⟩) hbw).trans (HCC.out k hkE)
      obtain ⟨x, hx⟩ : ∃ x, x = rs[k] := ⟨_, rfl⟩
      simp only [List.getElem_map, ← hx] at c0
      have HX := Lib.hid hx
      have HCx := Lib.hid (HC.out x (by rw [hx]; exact List.getElem_mem _) wr hbel)
      have HBel := Lib.hid hbel
      clear hx hbel
      go_wp2_with fail
      refine HCx.out.mono ?_
      rintro e wd ⟨rfl, hbd⟩
      have HBd := Lib.hid (HBel.out.trans (hbd.mono HBel.out.size))
      clear hbd
      cases hp : p x
      · have HP := Lib.hid hp
        clear hp
        go_wp2
        go_roundw
        case rel => exact ⟨k + 1, by omega, by go_num, HBd.out, Lib.hid (by
          rw [List.take_succ_eq_append_getElem hkE, List.find?_append, HT.out, ← HX.out]
          simp [HP.out])⟩
        case measure => simp [intOf]; omega
      · have HP := Lib.hid hp
        clear hp
        go_wp2
        go_ret
        exact ⟨⟨k, rfl, .inr ⟨k, hkE, find_snoc hkE HT.out (by rw [← HX.out]; exact HP.out), rfl⟩⟩, HBd.out⟩
    · have hlt2 : ¬ (k : Int) < n := by omega
      go_wp2
      go_ret
      refine ⟨⟨-1, rfl, .inl ⟨?_, rfl⟩⟩, hbel⟩
      have := HT.out
      rwa [List.take_of_length_le (by rw [← HN.out]; omega)] at this
end Go.Proofs.Ytadkjjpopmiceaa
