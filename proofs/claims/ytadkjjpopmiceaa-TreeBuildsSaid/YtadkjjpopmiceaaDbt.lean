/-
  The law's turned: a deed told by its place among the marks.
-/
import Derived.Test.YtadkjjpopmiceaaDba
namespace Go.Proofs.Ytadkjjpopmiceaa
open Go.RowKit Go.Lib

/-- two blocks of deeds that a call has laid. -/
def Tu (w u : World) (X1 X2 : Nat) (c1 c2 : Array Value) : Prop := Below w.heap.size w u ∧ u.heap[X1]? = some (.cells c1 55 (0, 0)) ∧ u.heap[X2]? = some (.cells c2 55 (0, 0))
theorem Tu.later {w u u' : World} {X1 X2 : Nat} {c1 c2 : Array Value} (h : Tu w u X1 X2 c1 c2) (hb : Below u.heap.size u u') : Tu w u' X1 X2 c1 c2 :=
  ⟨h.1.trans (hb.mono h.1.size), (hb.block _ (lt_of_block h.2.1)).trans h.2.1, (hb.block _ (lt_of_block h.2.2)).trans h.2.2⟩
theorem Tu.drew {w u : World} {X1 X2 : Nat} {c1 c2 : Array Value} (h : Tu w u X1 X2 c1 c2) : Tu w u.drew X1 X2 c1 c2 := h.later ((Below.refl _ _).drew)
theorem Tu.draws {w u : World} {X1 X2 : Nat} {c1 c2 : Array Value} (h : Tu w u X1 X2 c1 c2) (n : Nat) : Tu w (u.drewN n) X1 X2 c1 c2 := h.later (below_draws (Below.refl _ _) n)
theorem Tu.set1 {w u : World} {X1 X2 : Nat} {c1 c2 : Array Value} (h : Tu w u X1 X2 c1 c2) (hx : w.heap.size ≤ X1) (hne : X2 ≠ X1) (i : Nat) (v : Value) : Tu w (u.setCell ⟨X1, i, none⟩ v) X1 X2 (c1.setIfInBounds i v) c2 :=
  ⟨h.1.setCell (p := ⟨X1, i, none⟩) hx v, block_setCell' h.2.1, ((Keeps.refl (fun k => k = X1) u).setCell (p := ⟨X1, i, none⟩) rfl v).obj h.2.2 hne⟩
theorem seven_box {w : World} {b : Nat} {x0 x1 x2 x3 x4 x5 x6 : Value} {t : TypeId} (h : w.heap[b]? = some (.cells #[x0, x1, x2, x3, x4, x5, x6] t (0, 0))) : w.cell? ⟨b, 0, none⟩ = some x0 ∧ w.cell? ⟨b, 1, none⟩ = some x1 ∧ w.cell? ⟨b, 2, none⟩ = some x2 ∧ w.cell? ⟨b, 3, none⟩ = some x3 ∧ w.cell? ⟨b, 4, none⟩ = some x4 ∧ w.cell? ⟨b, 5, none⟩ = some x5 ∧ w.cell? ⟨b, 6, none⟩ = some x6 := ⟨(block_cell' h 0).1, (block_cell' h 1).1, (block_cell' h 2).1, (block_cell' h 3).1, (block_cell' h 4).1, (block_cell' h 5).1, (block_cell' h 6).1⟩
theorem block_free {w : World} {b : Nat} {c : Array Value} {t : TypeId} (h : w.heap[b]? = some (.cells c t (0, 0))) (i : Nat) : w.frozen? ⟨b, i, none⟩ = false := (block_cell' h i).2
def TurnR (w : World) (rule lev tz : Int) (v : Value) (e : Ending) (w' : World) : Prop :=
  ∃ wh mk fr : Int, e = .returned (.agg #[.int .i64 wh, .int .i64 mk, .int .i64 rule, .int .i64 lev, .int .i64 fr, .int .i64 tz, v]) ∧ (wh = 0 ∨ wh = 1 ∨ wh = 2) ∧ Below w.heap.size w w'
set_option maxRecDepth 100000 in
set_option maxHeartbeats 8000000 in
theorem turned_any {B rb : Nat} {vr : Value} {l : List Tw} {most peak : Nat} (what mark rule lev fr tz : Int) (ao : Option Addr) (dn cap : Nat) (w : World) (h : DoB B w rb vr l most peak) (hr : rightB l = true) :
    Calls Try.prog 23 #[.pointer (some ⟨rb, 0, none⟩), .agg #[.int .i64 what, .int .i64 mark, .int .i64 rule, .int .i64 lev, .int .i64 fr, .int .i64 tz, .slice ao dn cap]] w fun e w' => TurnR w rule lev tz (.slice ao dn cap) e w' := by
  have H := Lib.hid h
  have hown := h.own
  unfold TwOwn at hown
  obtain ⟨va, vc, rfl⟩ := own_val hown
  obtain ⟨len, hlen⟩ : ∃ len, len = l.length := ⟨_, rfl⟩
  have HLe := Lib.hid hlen
  have hl5 : len ≤ 100000 := by rw [hlen]; exact h.len
  have HRt := Lib.hid (topR_len hr)
  have HRd := Lib.hid (fun r (hm : r ∈ topR l) => by
    obtain ⟨rs, hF⟩ := (rightB_iff l).1 hr
    rw [topR_of hr hF] at hm
    exact (hF.root r hm).2)
  rw [← hlen] at H hown
  clear h hown hlen hr
  go_enter Try.func23, Try.ntmps23
  go_upto_region 1 with (fail)
  refine gen_world (S := fun u => Tu w u w.heap.size (w.heap.size + 1) #[.int .i64 what, .int .i64 mark, .int .i64 rule, .int .i64 lev, .int .i64 fr, .int .i64 tz, .slice ao dn cap] #[.int .i64 0, .int .i64 0, .int .i64 0, .int .i64 0, .int .i64 0, .int .i64 0, .slice none 0 0]) (two_new w _ _) (fun u hu => ?_)
  obtain ⟨X1, hX1⟩ : ∃ X1, X1 = w.heap.size := ⟨_, rfl⟩
  rw [← hX1] at hu ⊢
  obtain ⟨X2, hX2⟩ : ∃ X2, X2 = X1 + 1 := ⟨_, rfl⟩
  rw [← hX2] at hu ⊢
  have HU := Lib.hid hu
  have hx1 : w.heap.size ≤ X1 := by omega
  have hx2 : X2 ≠ X1 := by omega
  have hx3 : w.heap.size ≤ X2 := by omega
  have HX1 := Lib.hid hx1
  have HX2 := Lib.hid hx2
  have HX3 := Lib.hid hx3
  obtain ⟨x0, x1, x2, x3, x4, x5, x6⟩ := seven_box hu.2.1
  have f0 := block_free hu.2.1 0
  have hpk := pickN_range what 6 (by omega)
  have HPi := Lib.hid (fun u => pick_any u what 6 (by omega) (by omega))
  obtain ⟨p, hp⟩ : ∃ p, p = pickN what 6 := ⟨_, rfl⟩
  rw [← hp] at HPi hpk
  obtain ⟨hp0, hp6⟩ := hpk
  clear hu hX1 hX2 hx1 hx2 hx3 hp
  go_wp2_with fail
  refine (HPi.out _).mono ?_
  rintro e u1 ⟨rfl, rfl⟩
  go_upto_region 2 with (fail)
  refine gen_world (S := fun u => Tu w u X1 X2 #[.int .i64 p, .int .i64 mark, .int .i64 rule, .int .i64 lev, .int .i64 fr, .int .i64 tz, .slice ao dn cap] #[.int .i64 0, .int .i64 0, .int .i64 0, .int .i64 0, .int .i64 0, .int .i64 0, .slice none 0 0]) (HU.out.set1 HX1.out HX2.out 0 (.int .i64 p)) (fun u1 hu => ?_)
  clear x0 x1 x2 x3 x4 x5 x6 f0
  have HU1 := Lib.hid hu
  obtain ⟨x0, x1, x2, x3, x4, x5, x6⟩ := seven_box hu.2.1
  obtain ⟨y0, y1, y2, y3, y4, y5, y6⟩ := seven_box hu.2.2
  have yf := fun i => block_free hu.2.2 i
  clear hu
  by_cases hp3 : p < 3
  · have HP := Lib.hid (show p = 0 ∨ p = 1 ∨ p = 2 from by omega)
    go_wp2
    have hX := HU1.out.2.2
    obtain ⟨W, hW⟩ : ∃ W, W = (((((((u1.setCell ⟨X2, 0, none⟩ (.int .i64 p)).setCell ⟨X2, 1, none⟩ (.int .i64 mark)).setCell ⟨X2, 2, none⟩ (.int .i64 rule)).setCell ⟨X2, 3, none⟩ (.int .i64 lev)).setCell ⟨X2, 4, none⟩ (.int .i64 fr)).setCell ⟨X2, 5, none⟩ (.int .i64 tz)).setCell ⟨X2, 6, none⟩ (.slice ao dn cap)) := ⟨_, rfl⟩
    have hWb : W.heap[X2]? = some (.cells #[(.int .i64 p), (.int .i64 mark), (.int .i64 rule), (.int .i64 lev), (.int .i64 fr), (.int .i64 tz), (.slice ao dn cap)] 55 (0, 0)) := by rw [hW]; exact block_setCell' (block_setCell' (block_setCell' (block_setCell' (block_setCell' (block_setCell' (block_setCell' hX))))))
    have hWl : Below w.heap.size w W := by
      have h3 := HX3.out
      rw [hW]
      exact (((((((HU1.out.1.setCell (p := ⟨X2, 0, none⟩) h3 _).setCell (p := ⟨X2, 1, none⟩) h3 _).setCell (p := ⟨X2, 2, none⟩) h3 _).setCell (p := ⟨X2, 3, none⟩) h3 _).setCell (p := ⟨X2, 4, none⟩) h3 _).setCell (p := ⟨X2, 5, none⟩) h3 _).setCell (p := ⟨X2, 6, none⟩) h3 _)
    rw [← hW]
    obtain ⟨q0, q1, q2, q3, q4, q5, q6⟩ := seven_box hWb
    exact bodyPost_ret (v := .agg #[(.int .i64 p), (.int .i64 mark), (.int .i64 rule), (.int .i64 lev), (.int .i64 fr), (.int .i64 tz), (.slice ao dn cap)]) (by simp [results, Try.f23, go_sem, q0, q1, q2, q3, q4, q5, q6]) rfl ⟨_, _, _, rfl, HP.out, hWl⟩
  · clear y0 y1 y2 y3 y4 y5 y6 yf
    go_upto_region 4 with (fail)
    obtain ⟨i0, hi0, hz0, hz1, hz2⟩ := info_parts Try.infoInt
    obtain ⟨rn, hrn⟩ : ∃ rn, rn = (topR l).length := ⟨_, rfl⟩
    have hrn2 : rn ≤ len := by rw [hrn, HLe.out]; exact HRt.out
    have HRn := Lib.hid hrn
    clear x0 x1 x2 x3 x4 x5 x6 hrn
    have HFa := Lib.hid (show ∀ u, Below u1.heap.size u1 u → u.cell? ⟨rb, 0, none⟩ = some (.slice va len vc) from fun u hu => (three_box (H.out.later (HU1.out.later hu).1).blk).1)
    obtain ⟨B0, hB0⟩ : ∃ B0, B0 = u1.heap.size := ⟨_, rfl⟩
    have HBe := Lib.hid hB0
    have HSz := Lib.hid (show ∀ u, Below B0 u1 u → B0 ≤ u.heap.size from fun u h => by rw [hB0]; exact h.size)
    have HSr := Lib.hid (show Below B0 u1 u1.drew from by rw [hB0]; exact (Below.refl u1.heap.size u1).drew)
    rw [← hB0] at HFa
    clear hB0
    apply cut_hid
    · intro keyT
      refine wp_region_held_drew (S := fun u2 => Below B0 u1 u2) (by kernel_rfl) HSr.out (fun hS => ?_)
      refine wpAnyH_take (i := 0) (oi := ⟨_, _, _, _, _, _⟩) (v := ?v1) rfl (by kernel_rfl) (by kernel_rfl) (by kernel_rfl) (fun _ _ _ h => h) ?y1 hS ?_
      case y1 => first | (refine Or.inr ⟨by rfl, ?_⟩; with_reducible rfl) | (refine Or.inl ⟨by rfl, ?_⟩; intro wS hSw; have z0 := HFa.out wS hSw; go_simp; try with_reducible rfl)
      simp only [Act.put, List.setIfInBounds_toArray, List.set_cons_zero, List.set_cons_succ]
      refine wpAnyH_take (i := 1) (oi := ⟨_, _, _, _, _, _⟩) (v := ?v2) rfl (by kernel_rfl) (by kernel_rfl) (by kernel_rfl) (fun _ _ _ h => h) ?y2 hS ?_
      case y2 => first | (refine Or.inr ⟨by rfl, ?_⟩; with_reducible rfl) | (refine Or.inl ⟨by rfl, ?_⟩; intro wS hSw; have z0 := HFa.out wS hSw; go_simp; try with_reducible rfl)
      simp only [Act.put, List.setIfInBounds_toArray, List.set_cons_zero, List.set_cons_succ]
      refine wpAnyH_take (i := 2) (oi := ⟨_, _, _, _, _, _⟩) (v := ?v3) rfl (by kernel_rfl) (by kernel_rfl) (by kernel_rfl) (fun _ _ _ h => h) ?y3 hS ?_
      case y3 => first | (refine Or.inr ⟨by rfl, ?_⟩; with_reducible rfl) | (refine Or.inl ⟨by rfl, ?_⟩; intro wS hSw; have z0 := HFa.out wS hSw; go_simp; try with_reducible rfl)
      simp only [Act.put, List.setIfInBounds_toArray, List.set_cons_zero, List.set_cons_succ]
      refine wpAnyH_take (i := 3) (oi := ⟨_, _, _, _, _, _⟩) (v := ?v4) rfl (by kernel_rfl) (by kernel_rfl) (by kernel_rfl) (fun _ _ _ h => h) ?y4 hS ?_
      case y4 => first | (refine Or.inr ⟨by rfl, ?_⟩; with_reducible rfl) | (refine Or.inl ⟨by rfl, ?_⟩; intro wS hSw; have z0 := HFa.out wS hSw; go_simp; try with_reducible rfl)
      simp only [Act.put, List.setIfInBounds_toArray, List.set_cons_zero, List.set_cons_succ]
      refine wpAnyH_take (i := 5) (oi := ⟨_, _, _, _, _, _⟩) (v := ?v5) rfl (by kernel_rfl) (by kernel_rfl) (by kernel_rfl) (fun _ _ _ h => h) ?y5 hS ?_
      case y5 => first | (refine Or.inr ⟨by rfl, ?_⟩; with_reducible rfl) | (refine Or.inl ⟨by rfl, ?_⟩; intro wS hSw; have z0 := HFa.out wS hSw; go_simp; try with_reducible rfl)
      simp only [Act.put, List.setIfInBounds_toArray, List.set_cons_zero, List.set_cons_succ]
      refine wpAnyH_take (i := 6) (oi := ⟨_, _, _, _, _, _⟩) (v := ?v6) rfl (by kernel_rfl) (by kernel_rfl) (by kernel_rfl) (fun _ _ _ h => h) ?y6 hS ?_
      case y6 => first | (refine Or.inr ⟨by rfl, ?_⟩; with_reducible rfl) | (refine Or.inl ⟨by rfl, ?_⟩; intro wS hSw; have z0 := HFa.out wS hSw; go_simp; try with_reducible rfl)
      simp only [Act.put, List.setIfInBounds_toArray, List.set_cons_zero, List.set_cons_succ]
      refine wpAnyH_take (i := 7) (oi := ⟨_, _, _, _, _, _⟩) (v := ?v7) rfl (by kernel_rfl) (by kernel_rfl) (by kernel_rfl) (fun _ _ _ h => h) ?y7 hS ?_
      case y7 => first | (refine Or.inr ⟨by rfl, ?_⟩; with_reducible rfl) | (refine Or.inl ⟨by rfl, ?_⟩; intro wS hSw; have z0 := HFa.out wS hSw; go_simp; try with_reducible rfl)
      simp only [Act.put, List.setIfInBounds_toArray, List.set_cons_zero, List.set_cons_succ]
      refine wpAnyH_take (i := 8) (oi := ⟨_, _, _, _, _, _⟩) (v := ?v8) rfl (by kernel_rfl) (by kernel_rfl) (by kernel_rfl) (fun _ _ _ h => h) ?y8 hS ?_
      case y8 => first | (refine Or.inr ⟨by rfl, ?_⟩; with_reducible rfl) | (refine Or.inl ⟨by rfl, ?_⟩; intro wS hSw; have z0 := HFa.out wS hSw; go_simp; try with_reducible rfl)
      simp only [Act.put, List.setIfInBounds_toArray, List.set_cons_zero, List.set_cons_succ]
      refine wpAnyH_take (i := 9) (oi := ⟨_, _, _, _, _, _⟩) (v := ?v9) rfl (by kernel_rfl) (by kernel_rfl) (by kernel_rfl) (fun _ _ _ h => h) ?y9 hS ?_
      case y9 => first | (refine Or.inr ⟨by rfl, ?_⟩; with_reducible rfl) | (refine Or.inl ⟨by rfl, ?_⟩; intro wS hSw; have z0 := HFa.out wS hSw; go_simp; try with_reducible rfl)
      simp only [Act.put, List.setIfInBounds_toArray, List.set_cons_zero, List.set_cons_succ]
      refine wpAnyH_ready (rs := [4, 10]) (by kernel_rfl) (by simp) ?_
      refine AllReadyH.cons (o := ⟨_, _, _, _, _, _⟩) rfl (fun K hK => ?_) (AllReadyH.cons (o := ⟨_, _, _, _, _, _⟩) rfl (fun K hK => ?_) AllReadyH.nil)
      · go_simp
        refine (rTop_any _ l _ (H.out.later (HU1.out.later (HBe.out ▸ hS)).1).row).mono ?_
        rintro e wx ⟨vT, rfl, ho, hb⟩
        have hoC := ho.lift (HSz.out _ hS)
        unfold OwnN at hoC
        rw [← HRn.out] at hoC
        obtain ⟨aC, pC, rfl⟩ := own_val hoC
        have HoC := Lib.hid hoC
        have HbC := Lib.hid (hS.trans (hb.mono (HSz.out _ hS)))
        have HbD := Lib.hid hb
        clear ho hoC hb hS
        simp only []
        refine hK.out _ _ HbC.out (fun hS1 => ?_)
        clear hK K
        try simp only [Act.put, List.setIfInBounds_toArray, List.set_cons_zero, List.set_cons_succ]
        have hb := HbD.out
        have hoC := HoC.out
        refine gen_anyH (S2 := fun u => Below B0 u1 u ∧ (u.ownsRow B0 3 1 (.slice aC rn pC) rn (nats (topR l)))) ⟨hS1, hoC⟩ (fun wv hh => ?_)
        obtain ⟨hS, hC⟩ := hh
        clear hb hS1 hoC HoC HbC HbD
        refine wpAnyH_ready (rs := [10]) (by kernel_rfl) (by simp) ?_
        refine AllReadyH.cons (o := ⟨_, _, _, _, _, _⟩) rfl (fun K hK => ?_) AllReadyH.nil
        go_simp
        refine hK.out _ _ (hS.alloc (HSz.out _ hS) _) (fun hS1 => ?_)
        clear hK K
        try simp only [Act.put, List.setIfInBounds_toArray, List.set_cons_zero, List.set_cons_succ]
        have hb := (one_new wv (.cells #[.int .i64 (len : Int)] 3)).1
        have hnew := (one_new wv (.cells #[.int .i64 (len : Int)] 3)).2
        obtain ⟨gD, hg⟩ : ∃ gD, gD = wv.heap.size := ⟨_, rfl⟩
        try rw [← hg] at hnew ⊢
        refine gen_anyH (S2 := fun u => Below B0 u1 u ∧ (u.ownsRow B0 3 1 (.slice aC rn pC) rn (nats (topR l))) ∧ (u.heap[gD]? = some (.cells #[.int .i64 (len : Int)] 3 (0, 0)))) ⟨hS1, (Keeps.ofNew hb (fun _ => False)).row hC (fun _ _ h => h), hnew⟩ (fun wv hh => ?_)
        clear hS hC
        obtain ⟨hS, hC, hD⟩ := hh
        clear hb hnew hS1
        clear hg
        refine wpAnyH_list (L := #[true, true, true, true, true, true, true, true, true, true, true, false, false]) (by kernel_rfl) ?_
        revert hD
        revert hC
        revert pC
        revert aC
        revert gD
        revert hS
        revert wv
        exact keyT.out
      · go_simp
        refine hK.out _ _ (hS.alloc (HSz.out _ hS) _) (fun hS1 => ?_)
        clear hK K
        try simp only [Act.put, List.setIfInBounds_toArray, List.set_cons_zero, List.set_cons_succ]
        have hb := (one_new u1 (.cells #[.int .i64 (len : Int)] 3)).1
        have hnew := (one_new u1 (.cells #[.int .i64 (len : Int)] 3)).2
        obtain ⟨gD, hg⟩ : ∃ gD, gD = u1.heap.size := ⟨_, rfl⟩
        try rw [← hg] at hnew ⊢
        refine gen_anyH (S2 := fun u => Below B0 u1 u ∧ (u.heap[gD]? = some (.cells #[.int .i64 (len : Int)] 3 (0, 0)))) ⟨hS1, hnew⟩ (fun wv hh => ?_)
        clear hS 
        obtain ⟨hS, hD⟩ := hh
        clear hb hnew hS1
        clear hg
        refine wpAnyH_ready (rs := [4]) (by kernel_rfl) (by simp) ?_
        refine AllReadyH.cons (o := ⟨_, _, _, _, _, _⟩) rfl (fun K hK => ?_) AllReadyH.nil
        go_simp
        refine (rTop_any _ l _ (H.out.later (HU1.out.later (HBe.out ▸ hS)).1).row).mono ?_
        rintro e wx ⟨vT, rfl, ho, hb⟩
        have hoC := ho.lift (HSz.out _ hS)
        unfold OwnN at hoC
        rw [← HRn.out] at hoC
        obtain ⟨aC, pC, rfl⟩ := own_val hoC
        have HoC := Lib.hid hoC
        have HbC := Lib.hid (hS.trans (hb.mono (HSz.out _ hS)))
        have HbD := Lib.hid hb
        clear ho hoC hb hS
        simp only []
        refine hK.out _ _ HbC.out (fun hS1 => ?_)
        clear hK K
        try simp only [Act.put, List.setIfInBounds_toArray, List.set_cons_zero, List.set_cons_succ]
        have hb := HbD.out
        have hoC := HoC.out
        refine gen_anyH (S2 := fun u => Below B0 u1 u ∧ (u.ownsRow B0 3 1 (.slice aC rn pC) rn (nats (topR l))) ∧ (u.heap[gD]? = some (.cells #[.int .i64 (len : Int)] 3 (0, 0)))) ⟨hS1, hoC, (hb.block _ (lt_of_block hD)).trans hD⟩ (fun wv hh => ?_)
        clear hD
        obtain ⟨hS, hC, hD⟩ := hh
        clear hb hS1 hoC HoC HbC HbD
        refine wpAnyH_list (L := #[true, true, true, true, true, true, true, true, true, true, true, false, false]) (by kernel_rfl) ?_
        revert hD
        revert hC
        revert pC
        revert aC
        revert gD
        revert hS
        revert wv
        exact keyT.out
    · intro wv hS gD aC pC hC hD
      refine wpAnyH_ready (rs := [11]) (by kernel_rfl) (by simp) ?_
      refine AllReadyH.cons (o := ⟨_, _, _, _, _, _⟩) rfl (fun K hK => ?_) AllReadyH.nil
      have hNw := World.news_of_block hD
      refine step_append_tu (by rfl) _ _ 25 25 (by rfl) B0 3 3 i0 _ 1 8 Try.underlying25 Try.underlying25 hi0 hz0 hz1 hz2 rfl (by decide) aC rn pC (nats (topR l)) (by rfl) hC (some ⟨gD, 0, none⟩) 1 1 [.int .i64 (len : Int)] (by rfl) (fun h => by cases h) rfl (fun ad h => by cases h; exact hNw) (by simp [Value.oneCell']) (by unfold maxLen; omega) (by omega) (HSz.out _ hS) ?_
      intro v5 w5 hown5 hgrow5
      refine hK.out _ _ (hS.grown hgrow5 (HSz.out _ hS) (fun k hk => (hC.lt k hk).1)) (fun hS5 => ?_)
      clear hK K
      try simp only [Act.put, List.setIfInBounds_toArray, List.set_cons_zero, List.set_cons_succ]
      clear hC hD hgrow5 hS
      refine wpAnyH_take (i := 12) (oi := ⟨_, _, _, _, _, _⟩) (v := ?v10) rfl (by kernel_rfl) (by kernel_rfl) (by kernel_rfl) (fun _ _ _ h => h) ?y10 hS5 ?_
      case y10 => first | (refine Or.inr ⟨by rfl, ?_⟩; with_reducible rfl) | (refine Or.inl ⟨by rfl, ?_⟩; intro wS hSw; go_simp; try with_reducible rfl)
      simp only [Act.put, List.setIfInBounds_toArray, List.set_cons_zero, List.set_cons_succ]
      refine wpAnyH_done (by kernel_rfl) ?_ _
      have hown2 := OwnN.snoc HRn.out hown5
      have hb2 : Below u1.heap.size u1 w5 := HBe.out ▸ hS5
      clear hown5 hS5
      have HU2 := Lib.hid (HU1.out.later hb2)
      have HNm := Lib.hid (OwnN.nm hown2)
      have hrl : (topR l ++ [len]).length = rn + 1 := by simp [HRn.out]
      have HRl := Lib.hid hrl
      unfold OwnN at hown2
      rw [hrl] at hown2 
      obtain ⟨ma, mc, rfl⟩ := own_val hown2
      clear hown2 hb2 hrl
      obtain ⟨q, hq, hqp⟩ : ∃ q : Nat, q < rn + 1 ∧ pickN mark ((rn : Int) + 1) = q := by
        have := pickN_range mark ((rn : Int) + 1) (by omega)
        exact ⟨(pickN mark ((rn : Int) + 1)).toNat, by omega, by omega⟩
      have HPi2 := Lib.hid (fun u => pick_any u mark ((rn : Int) + 1) (by omega) (by omega))
      rw [hqp] at HPi2
      obtain ⟨x0, x1, x2, x3, x4, x5, x6⟩ := seven_box HU2.out.2.1
      have f1 := block_free HU2.out.2.1 1
      have hqM : q < (topR l ++ [len]).length := by rw [HRl.out]; exact hq
      have hmem : (topR l ++ [len])[q] ≤ len := by
        rcases List.mem_append.1 (List.getElem_mem hqM) with hm | hm
        · have := HRd.out _ hm
          have := HLe.out
          omega
        · simp only [List.mem_singleton] at hm
          omega
      obtain ⟨mb, mo, rfl, hmb, m0⟩ := HNm.out.cells hqM
      obtain ⟨mk, hmk⟩ : ∃ mk, mk = (topR l ++ [len])[q] := ⟨_, rfl⟩
      rw [← hmk] at hmem m0
      have hq' : (q : Int) < (rn : Int) + 1 := by omega
      clear hmk hqM hqp
      go_wp2_with fail
      refine (HPi2.out _).mono ?_
      rintro e w6 ⟨rfl, rfl⟩
      go_upto_region 6 with (fail)
      refine gen_world (S := fun u => Tu w u X1 X2 #[.int .i64 p, .int .i64 (mk : Int), .int .i64 rule, .int .i64 lev, .int .i64 fr, .int .i64 tz, .slice ao dn cap] #[.int .i64 0, .int .i64 0, .int .i64 0, .int .i64 0, .int .i64 0, .int .i64 0, .slice none 0 0]) (HU2.out.set1 HX1.out HX2.out 1 (.int .i64 (mk : Int))) (fun u3 hu => ?_)
      clear x0 x1 x2 x3 x4 x5 x6 f1 m0 hmb HPi2
      have HU3 := Lib.hid hu
      obtain ⟨x0, x1, x2, x3, x4, x5, x6⟩ := seven_box hu.2.1
      have H3 := Lib.hid (H.out.later hu.1)
      have c0 := (three_box H3.out.blk).1
      clear hu
      obtain ⟨r, hr, hrr⟩ : ∃ r, p.tmod 2 = r ∧ (r = 0 ∨ r = 1) := ⟨p.tmod 2, rfl, by
        rcases (show p = 3 ∨ p = 4 ∨ p = 5 from by omega) with rfl | rfl | rfl
        · exact .inr rfl
        · exact .inl rfl
        · exact .inr rfl⟩
      have HRw := Lib.hid (show (2 - r = 0 ∨ 2 - r = 1 ∨ 2 - r = 2) from by omega)
      have hw1 : IntKind.i64.wrap r = r := IntWalk.i64_in _ (by omega)
      have hw2 : IntKind.i64.wrap (2 - r) = 2 - r := IntWalk.i64_in _ (by omega)
      have hpb : ∀ b : Bool, (p == 5) = b → (p == 5) = b := fun _ h => h
      clear hpb hrr
      by_cases h5 : p = 5
      · by_cases hml : mk < len
        · have hml' : (mk : Int) < len := by omega
          obtain ⟨tb, toff, rfl, htb, s1, -, -⟩ := H3.out.own.tw.span (show mk < l.length from by rw [← HLe.out]; exact hml)
          obtain ⟨fv, hfv⟩ : ∃ fv, fv = (atT l mk).fr := ⟨_, rfl⟩
          rw [← hfv] at s1
          have f4 := block_free HU3.out.2.1 4
          clear hfv
          go_wp2_with fail
          go_quiet (fail)
          go_upto_region 7 with (fail)
          go_region
          all_goals go_upto_region 8 with (fail)
          refine gen_world (S := fun u => Tu w u X1 X2 #[.int .i64 p, .int .i64 (mk : Int), .int .i64 rule, .int .i64 lev, .int .i64 fv, .int .i64 tz, .slice ao dn cap] #[.int .i64 0, .int .i64 0, .int .i64 0, .int .i64 0, .int .i64 0, .int .i64 0, .slice none 0 0]) ((HU3.out.draws _).set1 HX1.out HX2.out 4 (.int .i64 fv)) (fun u4 hu => ?_)
          have HU4 := Lib.hid hu
          clear hu s1 f4 c0 htb h5
          clear x0 x1 x2 x3 x4 x5 x6
          obtain ⟨x0, x1, x2, x3, x4, x5, x6⟩ := seven_box HU4.out.2.1
          have f0 := block_free HU4.out.2.1 0
          go_upto_region 9 with (fail)
          refine gen_world (S := fun u => Tu w u X1 X2 #[.int .i64 (2 - r), .int .i64 (mk : Int), .int .i64 rule, .int .i64 lev, .int .i64 fv, .int .i64 tz, .slice ao dn cap] #[.int .i64 0, .int .i64 0, .int .i64 0, .int .i64 0, .int .i64 0, .int .i64 0, .slice none 0 0]) (HU4.out.set1 HX1.out HX2.out 0 (.int .i64 (2 - r))) (fun u5 hu => ?_)
          clear x0 x1 x2 x3 x4 x5 x6 f0
          have HU5 := Lib.hid hu
          obtain ⟨x0, x1, x2, x3, x4, x5, x6⟩ := seven_box hu.2.1
          obtain ⟨y0, y1, y2, y3, y4, y5, y6⟩ := seven_box hu.2.2
          have yf := fun i => block_free hu.2.2 i
          clear hu
          go_wp2
          have hX := HU5.out.2.2
          obtain ⟨W, hW⟩ : ∃ W, W = (((((((u5.setCell ⟨X2, 0, none⟩ (.int .i64 (2 - r))).setCell ⟨X2, 1, none⟩ (.int .i64 (mk : Int))).setCell ⟨X2, 2, none⟩ (.int .i64 rule)).setCell ⟨X2, 3, none⟩ (.int .i64 lev)).setCell ⟨X2, 4, none⟩ (.int .i64 fv)).setCell ⟨X2, 5, none⟩ (.int .i64 tz)).setCell ⟨X2, 6, none⟩ (.slice ao dn cap)) := ⟨_, rfl⟩
          have hWb : W.heap[X2]? = some (.cells #[(.int .i64 (2 - r)), (.int .i64 (mk : Int)), (.int .i64 rule), (.int .i64 lev), (.int .i64 fv), (.int .i64 tz), (.slice ao dn cap)] 55 (0, 0)) := by rw [hW]; exact block_setCell' (block_setCell' (block_setCell' (block_setCell' (block_setCell' (block_setCell' (block_setCell' hX))))))
          have hWl : Below w.heap.size w W := by
            have h3 := HX3.out
            rw [hW]
            exact (((((((HU5.out.1.setCell (p := ⟨X2, 0, none⟩) h3 _).setCell (p := ⟨X2, 1, none⟩) h3 _).setCell (p := ⟨X2, 2, none⟩) h3 _).setCell (p := ⟨X2, 3, none⟩) h3 _).setCell (p := ⟨X2, 4, none⟩) h3 _).setCell (p := ⟨X2, 5, none⟩) h3 _).setCell (p := ⟨X2, 6, none⟩) h3 _)
          rw [← hW]
          obtain ⟨q0, q1, q2, q3, q4, q5, q6⟩ := seven_box hWb
          exact bodyPost_ret (v := .agg #[(.int .i64 (2 - r)), (.int .i64 (mk : Int)), (.int .i64 rule), (.int .i64 lev), (.int .i64 fv), (.int .i64 tz), (.slice ao dn cap)]) (by simp [results, Try.f23, go_sem, q0, q1, q2, q3, q4, q5, q6]) rfl ⟨_, _, _, rfl, HRw.out, hWl⟩
        · have hml' : ¬ (mk : Int) < len := by omega
          go_wp2_with fail
          go_quiet (fail)
          go_upto_region 8 with (fail)
          refine gen_world (S := fun u => Tu w u X1 X2 #[.int .i64 p, .int .i64 (mk : Int), .int .i64 rule, .int .i64 lev, .int .i64 fr, .int .i64 tz, .slice ao dn cap] #[.int .i64 0, .int .i64 0, .int .i64 0, .int .i64 0, .int .i64 0, .int .i64 0, .slice none 0 0]) (HU3.out.draws _) (fun u4 hu => ?_)
          have HU4 := Lib.hid hu
          clear c0 hu h5
          clear x0 x1 x2 x3 x4 x5 x6
          obtain ⟨x0, x1, x2, x3, x4, x5, x6⟩ := seven_box HU4.out.2.1
          have f0 := block_free HU4.out.2.1 0
          go_upto_region 9 with (fail)
          refine gen_world (S := fun u => Tu w u X1 X2 #[.int .i64 (2 - r), .int .i64 (mk : Int), .int .i64 rule, .int .i64 lev, .int .i64 fr, .int .i64 tz, .slice ao dn cap] #[.int .i64 0, .int .i64 0, .int .i64 0, .int .i64 0, .int .i64 0, .int .i64 0, .slice none 0 0]) (HU4.out.set1 HX1.out HX2.out 0 (.int .i64 (2 - r))) (fun u5 hu => ?_)
          clear x0 x1 x2 x3 x4 x5 x6 f0
          have HU5 := Lib.hid hu
          obtain ⟨x0, x1, x2, x3, x4, x5, x6⟩ := seven_box hu.2.1
          obtain ⟨y0, y1, y2, y3, y4, y5, y6⟩ := seven_box hu.2.2
          have yf := fun i => block_free hu.2.2 i
          clear hu
          go_wp2
          have hX := HU5.out.2.2
          obtain ⟨W, hW⟩ : ∃ W, W = (((((((u5.setCell ⟨X2, 0, none⟩ (.int .i64 (2 - r))).setCell ⟨X2, 1, none⟩ (.int .i64 (mk : Int))).setCell ⟨X2, 2, none⟩ (.int .i64 rule)).setCell ⟨X2, 3, none⟩ (.int .i64 lev)).setCell ⟨X2, 4, none⟩ (.int .i64 fr)).setCell ⟨X2, 5, none⟩ (.int .i64 tz)).setCell ⟨X2, 6, none⟩ (.slice ao dn cap)) := ⟨_, rfl⟩
          have hWb : W.heap[X2]? = some (.cells #[(.int .i64 (2 - r)), (.int .i64 (mk : Int)), (.int .i64 rule), (.int .i64 lev), (.int .i64 fr), (.int .i64 tz), (.slice ao dn cap)] 55 (0, 0)) := by rw [hW]; exact block_setCell' (block_setCell' (block_setCell' (block_setCell' (block_setCell' (block_setCell' (block_setCell' hX))))))
          have hWl : Below w.heap.size w W := by
            have h3 := HX3.out
            rw [hW]
            exact (((((((HU5.out.1.setCell (p := ⟨X2, 0, none⟩) h3 _).setCell (p := ⟨X2, 1, none⟩) h3 _).setCell (p := ⟨X2, 2, none⟩) h3 _).setCell (p := ⟨X2, 3, none⟩) h3 _).setCell (p := ⟨X2, 4, none⟩) h3 _).setCell (p := ⟨X2, 5, none⟩) h3 _).setCell (p := ⟨X2, 6, none⟩) h3 _)
          rw [← hW]
          obtain ⟨q0, q1, q2, q3, q4, q5, q6⟩ := seven_box hWb
          exact bodyPost_ret (v := .agg #[(.int .i64 (2 - r)), (.int .i64 (mk : Int)), (.int .i64 rule), (.int .i64 lev), (.int .i64 fr), (.int .i64 tz), (.slice ao dn cap)]) (by simp [results, Try.f23, go_sem, q0, q1, q2, q3, q4, q5, q6]) rfl ⟨_, _, _, rfl, HRw.out, hWl⟩
      · have hnb : (p == 5) = false := by simpa using h5
        go_wp2_with fail
        go_quiet (fail)
        go_upto_region 8 with (fail)
        refine gen_world (S := fun u => Tu w u X1 X2 #[.int .i64 p, .int .i64 (mk : Int), .int .i64 rule, .int .i64 lev, .int .i64 fr, .int .i64 tz, .slice ao dn cap] #[.int .i64 0, .int .i64 0, .int .i64 0, .int .i64 0, .int .i64 0, .int .i64 0, .slice none 0 0]) (HU3.out.draws _) (fun u4 hu => ?_)
        have HU4 := Lib.hid hu
        clear c0 hu
        clear x0 x1 x2 x3 x4 x5 x6
        obtain ⟨x0, x1, x2, x3, x4, x5, x6⟩ := seven_box HU4.out.2.1
        have f0 := block_free HU4.out.2.1 0
        go_upto_region 9 with (fail)
        refine gen_world (S := fun u => Tu w u X1 X2 #[.int .i64 (2 - r), .int .i64 (mk : Int), .int .i64 rule, .int .i64 lev, .int .i64 fr, .int .i64 tz, .slice ao dn cap] #[.int .i64 0, .int .i64 0, .int .i64 0, .int .i64 0, .int .i64 0, .int .i64 0, .slice none 0 0]) (HU4.out.set1 HX1.out HX2.out 0 (.int .i64 (2 - r))) (fun u5 hu => ?_)
        clear x0 x1 x2 x3 x4 x5 x6 f0
        have HU5 := Lib.hid hu
        obtain ⟨x0, x1, x2, x3, x4, x5, x6⟩ := seven_box hu.2.1
        obtain ⟨y0, y1, y2, y3, y4, y5, y6⟩ := seven_box hu.2.2
        have yf := fun i => block_free hu.2.2 i
        clear hu
        go_wp2
        have hX := HU5.out.2.2
        obtain ⟨W, hW⟩ : ∃ W, W = (((((((u5.setCell ⟨X2, 0, none⟩ (.int .i64 (2 - r))).setCell ⟨X2, 1, none⟩ (.int .i64 (mk : Int))).setCell ⟨X2, 2, none⟩ (.int .i64 rule)).setCell ⟨X2, 3, none⟩ (.int .i64 lev)).setCell ⟨X2, 4, none⟩ (.int .i64 fr)).setCell ⟨X2, 5, none⟩ (.int .i64 tz)).setCell ⟨X2, 6, none⟩ (.slice ao dn cap)) := ⟨_, rfl⟩
        have hWb : W.heap[X2]? = some (.cells #[(.int .i64 (2 - r)), (.int .i64 (mk : Int)), (.int .i64 rule), (.int .i64 lev), (.int .i64 fr), (.int .i64 tz), (.slice ao dn cap)] 55 (0, 0)) := by rw [hW]; exact block_setCell' (block_setCell' (block_setCell' (block_setCell' (block_setCell' (block_setCell' (block_setCell' hX))))))
        have hWl : Below w.heap.size w W := by
          have h3 := HX3.out
          rw [hW]
          exact (((((((HU5.out.1.setCell (p := ⟨X2, 0, none⟩) h3 _).setCell (p := ⟨X2, 1, none⟩) h3 _).setCell (p := ⟨X2, 2, none⟩) h3 _).setCell (p := ⟨X2, 3, none⟩) h3 _).setCell (p := ⟨X2, 4, none⟩) h3 _).setCell (p := ⟨X2, 5, none⟩) h3 _).setCell (p := ⟨X2, 6, none⟩) h3 _)
        rw [← hW]
        obtain ⟨q0, q1, q2, q3, q4, q5, q6⟩ := seven_box hWb
        exact bodyPost_ret (v := .agg #[(.int .i64 (2 - r)), (.int .i64 (mk : Int)), (.int .i64 rule), (.int .i64 lev), (.int .i64 fr), (.int .i64 tz), (.slice ao dn cap)]) (by simp [results, Try.f23, go_sem, q0, q1, q2, q3, q4, q5, q6]) rfl ⟨_, _, _, rfl, HRw.out, hWl⟩
end Go.Proofs.Ytadkjjpopmiceaa
