/-
  The store: its end, its growth.
-/
import Derived.Test.YtkimkghldilliaaGreatStC
import Derived.Deep.RegionHeld3
namespace Go.Proofs.YtkimkghldilliaaGreat
open Go.RowKit Go.Lib

set_option maxHeartbeats 1000000 in
theorem st_End [Watch] {base s m : Nat} {sv : Value} {F : Live} {p : Pr} {f : Fd} (w : World) (h : StIs base w s m sv (F ++ [(p, f)])) :
    Calls Tryz.prog 56 #[.pointer (some ⟨s, 0, none⟩)] w fun e w' => e = .returned (.int .i64 0) ∧ (∃ sv', StIs base w' s m sv' F) ∧ KeepT base [130] true w w' := by
  have H := Lib.hid h
  clear h
  go_enter Tryz.func56, Tryz.ntmps56
  go_wp2_with fail
  go_enter Tryz.func100, Tryz.ntmps100
  go_wp2_with (go_at_call 96; refine (st_made _ H.out).mono ?_; rintro e w' ⟨rfl, rfl⟩)
  refine (st_last _ H.out).mono ?_
  rintro e w2 ⟨rfl, hb⟩
  have H2 := Lib.hid (H.out.later hb)
  have Hb := Lib.hid hb
  clear hb
  unfold pkv
  go_wp2_with fail
  refine (st_lets _ (H2.out.later ((Below.refl _ _).alloc (Nat.le_refl _) _))).mono ?_
  rintro e w3 ⟨rfl, hs, hk⟩
  have Hs := Lib.hid hs
  have Hk := Lib.hid hk
  clear hs hk
  go_wp2
  go_ret
  go_wp2
  exact ⟨Hs.out, KeepT.trans (KeepT.ofBelow (Hb.out.alloc Hb.out.size _)) Hk.out⟩

set_option maxHeartbeats 1000000 in
theorem found_further (f : Fd) (en lev : Int) (v : Value) (t : List Tw) (w : World) (h : f.is = false ∨ (f.en < en ∧ lev = f.lev)) (hv : TwIn w v t) (hf : TwIn w f.v f.tree) :
    Calls Tryz.prog 102 #[fdv f, .agg #[.int .i64 en, .int .i64 lev, v]] w fun e w' => e = .returned (.bool true) ∧ Below w.heap.size w w' := by
  obtain ⟨is, fe, fl, tr, fv⟩ := f
  simp only at h hf
  obtain ⟨ao, cap, rfl⟩ := hv.1.val
  obtain ⟨ao', cap', rfl⟩ := hf.1.val
  clear hv hf
  unfold fdv
  cases is with
  | false =>
    clear h
    go_enter Tryz.func102, Tryz.ntmps102
    go_wp2
    go_ret
    exact ⟨rfl, ((Below.refl _ _).alloc (Nat.le_refl _) _).alloc (by simp) _⟩
  | true =>
    have h1 : fe < en := by simpa using h.resolve_left (by simp) |>.1
    have h2 : lev = fl := by simpa using h.resolve_left (by simp) |>.2
    clear h
    subst h2
    have h3 : decide (en > fe) = true := by simpa using h1
    go_enter Tryz.func102, Tryz.ntmps102
    go_wp2
    go_ret
    refine ⟨by simp [h1], ((Below.refl _ _).alloc (Nat.le_refl _) _).alloc (by simp) _⟩

theorem grow_close [Watch] {base s m : Nat} {sv : Value} {F : Live} {p : Pr} {f f' : Fd} {w w4 : World} (h : StIs base w s m sv (F ++ [(p, f)])) (hm : MapIs w4 m ((F.map fun x => (x.1, fdv x.2)) ++ [(p, fdv f')])) (hk2 : Keeps (· = m) w w4) (ht : TwIn w f'.v f'.tree) :
    StIs base w4 s m sv (F ++ [(p, f')]) ∧ KeepT base [] true w w4 := by
  have h34 : KeepT base [] true w w4 := Keeps.mono hk2 fun k _ e => by
    subst e
    obtain ⟨es, clock, hb, _⟩ := h.map
    exact ⟨h.bm, by unfold Tyb; rw [hb]⟩
  have hp : ∀ g : Fd, pcs (F ++ [(p, g)]) = pcs F ++ [.int .i64 p.1, .int .i64 p.2] := fun g => by simp [pcs]
  refine ⟨⟨h34.cells h.blk (by simp), ?_, by simpa using hm, ?_, ?_, ?_, h.bs, h.bm, by simpa using h.le⟩, h34⟩
  · have hr := h.row
    rw [hp, List.length_append] at hr ⊢
    refine hk2.row hr fun k hkk e => ?_
    subst e
    obtain ⟨es, clock, hb, _⟩ := h.map
    rcases hr.2 with ⟨e, _⟩ | ⟨g, cap, cur, e, _, hc, _⟩
    · rw [e] at hkk; simp [Value.ownBlock] at hkk
    · rw [e] at hkk
      simp [Value.ownBlock] at hkk
      subst hkk
      rw [hb] at hc
      simp at hc
  · intro x hx
    rcases List.mem_append.1 hx with hx | hx
    · exact (h.trees x (List.mem_append_left _ hx)).keepT h34 (by simp)
    · simp at hx; subst hx
      exact ht.keepT h34 (by simp)
  · have := h.apart
    rw [List.pairwise_append] at this ⊢
    exact ⟨this.1, by simp, fun a ha b hb => by simp at hb; subst hb; exact this.2.2 a ha (p, f) (by simp)⟩
  · intro x hx
    rcases List.mem_append.1 hx with hx | hx
    · exact h.wf x (List.mem_append_left _ hx)
    · simp at hx; subst hx; exact h.wf (p, f) (by simp)

set_option maxHeartbeats 2000000 in
theorem st_grow1 [Watch] {base s m : Nat} {sv v : Value} {F : Live} {p : Pr} {f : Fd} {en lev : Int} {t : List Tw} {b1 b2 : Nat} (w : World) (h : StIs base w s m sv (F ++ [(p, f)])) (hv : TwIn w v t) (hl : t.length ≤ 1000000) (hg : f.is = false ∨ (f.en < en ∧ lev = f.lev))
    (hb1 : w.heap[b1]? = some (.cells #[.pointer (some ⟨s, 0, none⟩)] 68 (0, 0))) (hb2 : w.heap[b2]? = some (.cells #[.int .i64 en, .int .i64 lev, v] 136 (0, 0))) :
    Calls Tryz.prog 101 #[pkv p, .pointer (some ⟨b1, 0, none⟩), .pointer (some ⟨b2, 0, none⟩)] w fun e w' => e = .returned (.int .i64 0) ∧ (∃ v', StIs base w' s m sv (F ++ [(p, ⟨true, en, lev, t, v'⟩)])) ∧ KeepT base [] true w w' := by
  have H := Lib.hid h
  have hwf : ∀ x ∈ (F.map fun x => (x.1, fdv x.2)), W64 x.1 := by
    intro x hx
    obtain ⟨y, hy, rfl⟩ := List.mem_map.1 hx
    exact h.wf y (List.mem_append_left _ hy)
  have hwf' : ∀ x ∈ ((F ++ [(p, f)]).map fun x => (x.1, fdv x.2)), W64 x.1 := by
    intro x hx
    obtain ⟨y, hy, rfl⟩ := List.mem_map.1 hx
    exact h.wf y hy
  have hap : ((F ++ [(p, f)]).map fun x => (x.1, fdv x.2)).Pairwise fun a b => a.1 ≠ b.1 := by rw [List.pairwise_map]; exact h.apart
  have hm2 : ∀ x ∈ (F.map fun x => (x.1, fdv x.2)), x.1 ≠ p := by
    intro x hx
    obtain ⟨y, hy, rfl⟩ := List.mem_map.1 hx
    exact (List.pairwise_append.1 h.apart).2.2 y hy (p, f) (by simp)
  have hp := h.wf (p, f) (by simp)
  have hlk := fun (wq : World) (hq : StIs base wq s m sv (F ++ [(p, f)])) => map_hit (w := wq) hq.map hwf' (List.mem_map.2 ⟨(p, f), by simp, rfl⟩) hap false
  have Hlk := Lib.hid hlk
  have hup := fun (wq : World) (hq : MapIs wq m ((F.map fun x => (x.1, fdv x.2)) ++ [(p, fdv f)])) => (map_last (w := wq) hq hwf hp hm2).1
  have Hup := Lib.hid hup
  have HV := Lib.hid hv
  have HF := Lib.hid (h.trees (p, f) (by simp))
  obtain ⟨ao, cap, rfl⟩ := hv.1.val
  obtain ⟨ao', cap', hfv⟩ := HF.out.1.val
  obtain ⟨is, fe, fl, tr, fv⟩ := f
  simp only at hfv hg
  subst hfv
  clear h hwf hwf' hap hm2 hp hlk hup hv
  unfold pkv at Hlk Hup ⊢
  unfold fdv at Hlk
  have Hg := Lib.hid hg
  have B1 := Lib.hid hb1
  have B2 := Lib.hid hb2
  clear hg hb1 hb2
  simp only at Hlk
  go_enter Tryz.func101, Tryz.ntmps101
  go_wp2_with fail
  refine gen_world (S := fun u => Below w.heap.size w u ∧ u.heap[w.heap.size]? = some (.cells #[.int .i64 p.1, .int .i64 p.2] 175 (0, 0))) (one_new w _) (fun u hu => ?_)
  obtain ⟨hb, h1⟩ := hu
  have hu := H.out.later hb
  have hlk1 := Hlk.out _ (hu.later ((Below.refl u.heap.size u).drew))
  obtain ⟨-, c1, -, -⟩ := hu.cells
  obtain ⟨d0, d1, -, -⟩ := box_cells h1
  have e0 := (block_cell' ((hb.block _ (lt_of_block B1.out)).trans B1.out) 0).1
  obtain ⟨g0, g1, g2, -, -, -⟩ := three_box ((hb.block _ (lt_of_block B2.out)).trans B2.out)
  simp only [List.getElem?_toArray, List.getElem?_cons_zero] at e0
  have Hu := Lib.hid hu
  have Hb := Lib.hid hb
  have H1 := Lib.hid h1
  clear h1 hu hb
  go_region
  go_wp2_with fail
  refine (found_further ⟨is, fe, fl, tr, .slice ao' tr.length cap'⟩ en lev _ t _ Hg.out (HV.out.later Hb.out.drew) (HF.out.later Hb.out.drew)).mono ?_
  rintro e y ⟨rfl, hby⟩
  have hy := Hb.out.trans ((Below.refl u.heap.size u).drew.trans hby |>.mono Hb.out.size)
  have hyy := H.out.later hy
  have Hy := Lib.hid hyy
  have hHV := HV.out.later hy
  have HVy := Lib.hid hHV
  have h1 := ((Below.refl u.heap.size u).drew.trans hby |>.block _ (lt_of_block H1.out)).trans H1.out
  clear c1 d0 d1 e0 g0 g1 g2 hlk1 Hlk Hu
  obtain ⟨-, c1, -, -⟩ := hyy.cells
  obtain ⟨d0, d1, -, -⟩ := box_cells h1
  have e0 := (block_cell' ((hy.block _ (lt_of_block B1.out)).trans B1.out) 0).1
  obtain ⟨g0, g1, g2, -, -, -⟩ := three_box ((hy.block _ (lt_of_block B2.out)).trans B2.out)
  simp only [List.getElem?_toArray, List.getElem?_cons_zero] at e0
  have Hby := Lib.hid hy
  have H1y := Lib.hid h1
  clear hy hyy hHV h1 hby Hb H1
  have hm := Hy.out.map
  have nem : ∀ (k : Nat) (cs : Array Value) (ty : TypeId) (fr : Nat × Nat), y.heap[k]? = some (.cells cs ty fr) → ¬ (k = m) := fun k cs ty fr h e => by
    subst e
    obtain ⟨es, clock, hb, _⟩ := hm
    rw [h] at hb
    simp at hb
  have Ns := nem _ _ _ _ Hy.out.blk
  have Nx := nem _ _ _ _ H1y.out
  have N1 := nem _ _ _ _ ((Hby.out.block _ (lt_of_block B1.out)).trans B1.out)
  have N2 := nem _ _ _ _ ((Hby.out.block _ (lt_of_block B2.out)).trans B2.out)
  clear hm nem
  go_wp2_with fail
  -- region 4
  refine wp_region_held_drew (S := fun wq => Keeps (· = m) y wq) (by kernel_rfl) ((Keeps.refl (· = m) y).drew) (fun hS => ?_)
  refine wpAnyH_take (i := 0) (oi := ⟨_, _, _, _, _, _⟩) (v := ?v1) rfl (by kernel_rfl) (by kernel_rfl) (by kernel_rfl) (fun _ _ _ h => h) ?y1 hS ?_
  case y1 => first | (refine Or.inr ⟨by rfl, ?_⟩; with_reducible rfl) | (refine Or.inl ⟨by rfl, ?_⟩; intro wS hSw; have c1S := hSw.cell c1 Ns; have d0S := hSw.cell d0 Nx; have d1S := hSw.cell d1 Nx; have e0S := hSw.cell e0 N1; have g0S := hSw.cell g0 N2; have g1S := hSw.cell g1 N2; have g2S := hSw.cell g2 N2; go_simp; try with_reducible rfl)
  simp only [Act.put, List.setIfInBounds_toArray, List.set_cons_zero, List.set_cons_succ]
  refine wpAnyH_take (i := 1) (oi := ⟨_, _, _, _, _, _⟩) (v := ?v2) rfl (by kernel_rfl) (by kernel_rfl) (by kernel_rfl) (fun _ _ _ h => h) ?y2 hS ?_
  case y2 => first | (refine Or.inr ⟨by rfl, ?_⟩; with_reducible rfl) | (refine Or.inl ⟨by rfl, ?_⟩; intro wS hSw; have c1S := hSw.cell c1 Ns; have d0S := hSw.cell d0 Nx; have d1S := hSw.cell d1 Nx; have e0S := hSw.cell e0 N1; have g0S := hSw.cell g0 N2; have g1S := hSw.cell g1 N2; have g2S := hSw.cell g2 N2; go_simp; try with_reducible rfl)
  simp only [Act.put, List.setIfInBounds_toArray, List.set_cons_zero, List.set_cons_succ]
  refine wpAnyH_take (i := 2) (oi := ⟨_, _, _, _, _, _⟩) (v := ?v3) rfl (by kernel_rfl) (by kernel_rfl) (by kernel_rfl) (fun _ _ _ h => h) ?y3 hS ?_
  case y3 => first | (refine Or.inr ⟨by rfl, ?_⟩; with_reducible rfl) | (refine Or.inl ⟨by rfl, ?_⟩; intro wS hSw; have c1S := hSw.cell c1 Ns; have d0S := hSw.cell d0 Nx; have d1S := hSw.cell d1 Nx; have e0S := hSw.cell e0 N1; have g0S := hSw.cell g0 N2; have g1S := hSw.cell g1 N2; have g2S := hSw.cell g2 N2; go_simp; try with_reducible rfl)
  simp only [Act.put, List.setIfInBounds_toArray, List.set_cons_zero, List.set_cons_succ]
  refine wpAnyH_take (i := 3) (oi := ⟨_, _, _, _, _, _⟩) (v := ?v4) rfl (by kernel_rfl) (by kernel_rfl) (by kernel_rfl) (fun _ _ _ h => h) ?y4 hS ?_
  case y4 => first | (refine Or.inr ⟨by rfl, ?_⟩; with_reducible rfl) | (refine Or.inl ⟨by rfl, ?_⟩; intro wS hSw; have c1S := hSw.cell c1 Ns; have d0S := hSw.cell d0 Nx; have d1S := hSw.cell d1 Nx; have e0S := hSw.cell e0 N1; have g0S := hSw.cell g0 N2; have g1S := hSw.cell g1 N2; have g2S := hSw.cell g2 N2; go_simp; try with_reducible rfl)
  simp only [Act.put, List.setIfInBounds_toArray, List.set_cons_zero, List.set_cons_succ]
  refine wpAnyH_take (i := 4) (oi := ⟨_, _, _, _, _, _⟩) (v := ?v5) rfl (by kernel_rfl) (by kernel_rfl) (by kernel_rfl) (fun _ _ _ h => h) ?y5 hS ?_
  case y5 => first | (refine Or.inr ⟨by rfl, ?_⟩; with_reducible rfl) | (refine Or.inl ⟨by rfl, ?_⟩; intro wS hSw; have c1S := hSw.cell c1 Ns; have d0S := hSw.cell d0 Nx; have d1S := hSw.cell d1 Nx; have e0S := hSw.cell e0 N1; have g0S := hSw.cell g0 N2; have g1S := hSw.cell g1 N2; have g2S := hSw.cell g2 N2; go_simp; try with_reducible rfl)
  simp only [Act.put, List.setIfInBounds_toArray, List.set_cons_zero, List.set_cons_succ]
  refine wpAnyH_take (i := 5) (oi := ⟨_, _, _, _, _, _⟩) (v := ?v6) rfl (by kernel_rfl) (by kernel_rfl) (by kernel_rfl) (fun _ _ _ h => h) ?y6 hS ?_
  case y6 => first | (refine Or.inr ⟨by rfl, ?_⟩; with_reducible rfl) | (refine Or.inl ⟨by rfl, ?_⟩; intro wS hSw; have c1S := hSw.cell c1 Ns; have d0S := hSw.cell d0 Nx; have d1S := hSw.cell d1 Nx; have e0S := hSw.cell e0 N1; have g0S := hSw.cell g0 N2; have g1S := hSw.cell g1 N2; have g2S := hSw.cell g2 N2; go_simp; try with_reducible rfl)
  simp only [Act.put, List.setIfInBounds_toArray, List.set_cons_zero, List.set_cons_succ]
  refine wpAnyH_ready (rs := [6]) (by kernel_rfl) (by simp) ?_
  refine AllReadyH.cons (o := ⟨_, _, _, _, _, _⟩) rfl (fun K hK => ?_) AllReadyH.nil
  go_simp
  refine (seed_copied en lev _ t y.drew (HVy.out.later (Below.refl y.heap.size y).drew) hl).mono ?_
  rintro e w5 ⟨v', rfl, hT', hb5⟩; have hb5' := (Below.refl y.heap.size y).drew.trans hb5; have hS := (Keeps.ofNew hb5' (· = m)); obtain ⟨ao5, cap5, rfl⟩ := hT'.1.val; have hy5 := Hy.out.later hb5'; have hm5 := hy5.map; simp only [List.map_append, List.map_cons, List.map_nil] at hm5; obtain ⟨w6, hrun, hm6, hk6⟩ := Hup.out w5 hm5 (fdv ⟨true, en, lev, t, .slice ao5 t.length cap5⟩); unfold fdv at hrun; simp only at hrun; have HT5 := Lib.hid hT'; have Hb5 := Lib.hid hb5'; have Hm6 := Lib.hid hm6; have Hk6 := Lib.hid hk6; have Hy5 := Lib.hid hy5; clear hT' hb5 hb5' hm5 hm6 hk6 hy5
  go_wp2_with fail
  refine hK.out _ _ hS (fun _ => ?_)
  clear hK K
  try simp only [Act.put, List.setIfInBounds_toArray, List.set_cons_zero, List.set_cons_succ]
  refine wpAnyH_take (i := 7) (oi := ⟨_, _, _, _, _, _⟩) (v := ?v7) rfl (by kernel_rfl) (by kernel_rfl) (by kernel_rfl) (fun _ _ _ h => h) ?y7 hS ?_
  case y7 => first | (refine Or.inr ⟨by rfl, ?_⟩; with_reducible rfl) | (refine Or.inl ⟨by rfl, ?_⟩; intro wS hSw; have c1S := hSw.cell c1 Ns; have d0S := hSw.cell d0 Nx; have d1S := hSw.cell d1 Nx; have e0S := hSw.cell e0 N1; have g0S := hSw.cell g0 N2; have g1S := hSw.cell g1 N2; have g2S := hSw.cell g2 N2; go_simp; try with_reducible rfl)
  simp only [Act.put, List.setIfInBounds_toArray, List.set_cons_zero, List.set_cons_succ]
  refine wpAnyH_ready (rs := [8]) (by kernel_rfl) (by simp) ?_
  refine AllReadyH.cons (o := ⟨_, _, _, _, _, _⟩) rfl (fun K hK => ?_) AllReadyH.nil
  go_simp
  refine hK.out _ _ (hS.trans Hk6.out) (fun _ => ?_)
  clear hK K
  try simp only [Act.put, List.setIfInBounds_toArray, List.set_cons_zero, List.set_cons_succ]
  refine wpAnyH_done (by kernel_rfl) ?_ _
  -- end of region 4
  go_wp2
  go_ret
  obtain ⟨r1, r2⟩ := grow_close Hy5.out Hm6.out Hk6.out HT5.out
  exact ⟨rfl, ⟨_, r1⟩, KeepT.trans (KeepT.ofBelow Hby.out) (KeepT.trans (KeepT.ofBelow Hb5.out) r2)⟩

set_option maxHeartbeats 1000000 in
theorem st_Grow [Watch] {base s m : Nat} {sv v : Value} {F : Live} {p : Pr} {f : Fd} {en lev : Int} {t : List Tw} (w : World) (h : StIs base w s m sv (F ++ [(p, f)])) (hv : TwIn w v t) (hl : t.length ≤ 1000000) (hg : f.is = false ∨ (f.en < en ∧ lev = f.lev)) :
    Calls Tryz.prog 55 #[.pointer (some ⟨s, 0, none⟩), .agg #[.int .i64 en, .int .i64 lev, v]] w fun e w' => e = .returned (.int .i64 0) ∧ (∃ v', StIs base w' s m sv (F ++ [(p, ⟨true, en, lev, t, v'⟩)])) ∧ KeepT base [] true w w' := by
  have H := Lib.hid h
  have HV := Lib.hid hv
  obtain ⟨ao, cap, rfl⟩ := hv.1.val
  clear h hv
  go_enter Tryz.func55, Tryz.ntmps55
  go_upto_region 1 with (fail)
  refine gen_world (S := fun u => Below w.heap.size w u ∧ u.heap[w.heap.size]? = some (.cells #[.pointer (some ⟨s, 0, none⟩)] 68 (0, 0)) ∧ u.heap[w.heap.size + 1]? = some (.cells #[.int .i64 en, .int .i64 lev, .slice ao t.length cap] 136 (0, 0))) (two_new w _ _) (fun u hu => ?_)
  obtain ⟨hb, h1, h2⟩ := hu
  have e0 := (block_cell' h1 0).1
  simp only [List.getElem?_toArray, List.getElem?_cons_zero] at e0
  have Hu := Lib.hid (H.out.later hb)
  have Hb := Lib.hid hb
  have H1 := Lib.hid h1
  have H2 := Lib.hid h2
  clear h1 h2 hb
  go_wp2_with fail
  go_enter Tryz.func100, Tryz.ntmps100
  go_wp2_with (go_at_call 96; refine (st_made _ Hu.out).mono ?_; rintro e w' ⟨rfl, rfl⟩)
  refine (st_last _ Hu.out).mono ?_
  rintro e w2 ⟨rfl, hb2⟩
  have hb3 := hb2.alloc hb2.size (.cells #[.int .i64 p.1, .int .i64 p.2] 175)
  have Hb3 := Lib.hid hb3
  clear hb2 hb3
  unfold pkv
  go_wp2_with fail
  refine (st_grow1 _ (Hu.out.later Hb3.out) ((HV.out.later Hb.out).later Hb3.out) hl hg ((Hb3.out.block _ (lt_of_block H1.out)).trans H1.out) ((Hb3.out.block _ (lt_of_block H2.out)).trans H2.out)).mono ?_
  rintro e w3 ⟨rfl, hs, hk⟩
  have Hs := Lib.hid hs
  have Hk := Lib.hid hk
  clear hs hk
  go_wp2
  go_ret
  go_wp2
  exact ⟨Hs.out, KeepT.trans (KeepT.ofBelow Hb.out) (KeepT.trans (KeepT.ofBelow Hb3.out) Hk.out)⟩
end Go.Proofs.YtkimkghldilliaaGreat
