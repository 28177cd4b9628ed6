/-
  A script's body, asked once.
-/
import Derived.Test.YtebgleehmgmfbaaScB
namespace Go.Proofs.Ytebgleehmgmfbaa
open Go.RowKit Go.Lib

theorem Try.infoRead : (Try.prog.info? 51).map (fun i => (i.zero, i.size, i.bytes)) = some (some (.agg #[.int .i64 0, .int .i64 0, .int .i64 0]), 3, 24) := by kernel_rfl
theorem Try.infoTwigs : (Try.prog.info? 36).map (fun i => (i.zero, i.size, i.bytes)) = some (some (.slice none 0 0), 1, 24) := by kernel_rfl

theorem an_field0 (b : Bool) (e f r : Int) (ao : Option Addr) (n cap : Nat) (w : World) : (Instr.field 53 (.agg #[.bool b, .int .i64 e, .int .i64 f, .slice ao n cap, .int .i64 r]) 0).run Try.prog w = .ok (.agg #[.bool b, .int .i64 e, .int .i64 f, .slice ao n cap]) w := by kernel_rfl
theorem fo_field3 (b : Bool) (e f : Int) (ao : Option Addr) (n cap : Nat) (w : World) : (Instr.field 38 (.agg #[.bool b, .int .i64 e, .int .i64 f, .slice ao n cap]) 3).run Try.prog w = .ok (.slice ao n cap) w := by kernel_rfl
/-- what the body knows in the midst. -/
structure Mid [Watch] (base : Nat) (w w' : World) (s m : Nat) (sv : Value) (F : Live) (sb : Nat) (p : Pr) (lev : Int) (av rv lv : Value) (rds : List Rd) (gl : List Lnt) (ok : Bool) (l : List An) : Prop where
  st : StIs base w' s m sv F
  sc : ScIs base w' sb s p lev av rv lv rds gl ok
  an : AnsS base w' av l
  res : w'.heap[w.heap.size]? = some (.cells #[.bool false, .int .i64 0, .int .i64 0, .slice none 0 0] 38 (0, 0))
  kp : KeepT base [35, 51, 36] false w w'
theorem Mid.later [Watch] {base : Nat} {w w' w2 : World} {s m : Nat} {sv : Value} {F : Live} {sb : Nat} {p : Pr} {lev : Int} {av rv lv : Value} {rds : List Rd} {gl : List Lnt} {ok : Bool} {l : List An} (h : Mid base w w' s m sv F sb p lev av rv lv rds gl ok l) (hb : Below w'.heap.size w' w2) : Mid base w w2 s m sv F sb p lev av rv lv rds gl ok l :=
  ⟨h.st.later hb, h.sc.later hb, h.an.later hb, (hb.block _ (lt_of_block h.res)).trans h.res, KeepT.trans h.kp (KeepT.ofBelow hb)⟩

theorem Keeps.set_new {S : Nat → Prop} {a b c : World} {x : Nat} (h : Keeps S a b) (k : Keeps (fun k => k = x) b c) (hx : a.heap.size ≤ x) : Keeps S a c :=
  ⟨k.os.trans h.os, k.tape.trans h.tape, k.output.trans h.output, Nat.le_trans h.size k.size, fun i hi hn => (k.block i (Nat.lt_of_lt_of_le hi h.size) (by omega)).trans (h.block i hi hn)⟩
theorem set3 {w : World} {x : Nat} {a0 a1 a2 : Value} {t : TypeId} (h : w.heap[x]? = some (.cells #[a0, a1, a2] t (0, 0))) (v0 v1 v2 : Value) :
    (((w.setCell ⟨x, 0, none⟩ v0).setCell ⟨x, 1, none⟩ v1).setCell ⟨x, 2, none⟩ v2).heap[x]? = some (.cells #[v0, v1, v2] t (0, 0)) ∧
    Keeps (fun k => k = x) w (((w.setCell ⟨x, 0, none⟩ v0).setCell ⟨x, 1, none⟩ v1).setCell ⟨x, 2, none⟩ v2) :=
  ⟨block_setCell' (k := 2) (block_setCell' (k := 1) (block_setCell' (k := 0) h)), ((((Keeps.refl (fun k => k = x) w).setCell (p := ⟨x, 0, none⟩) rfl _).setCell (p := ⟨x, 1, none⟩) rfl _).setCell (p := ⟨x, 2, none⟩) rfl _)⟩

set_option maxRecDepth 100000 in
set_option maxHeartbeats 4000000 in
theorem body_any [Watch] {base s m : Nat} {sv : Value} {F : Live} {p : Pr} {f : Fd} {sb : Nat} {lev : Int} {av rv lv : Value} {rds : List Rd} {gl : List Lnt} {l : List An} (w : World)
    (hs : StIs base w s m sv (F ++ [(p, f)])) (hc : ScIs base w sb s p lev av rv lv rds gl true) (ha : AnsS base w av l) (hg : gl.length = rds.length) (hn : rds.length < 100000) (hf : f.tree.length ≤ 1000000) (ht : (atA l rds.length).tree.length ≤ 1000000)
    (hr : rds.length = 0 ∨ (f.is = true ∧ f.lev ≤ lev ∧ f.tree = (atA l (rds.length - 1)).tree)) :
    Calls Try.prog 11 #[.pointer (some ⟨sb, 0, none⟩)] w fun e w' =>
      ∃ g rv' lv', e = .returned (.tuple #[.agg #[.bool (atA l rds.length).is, .int .i64 (atA l rds.length).en, .int .i64 (atA l rds.length).far, lntv (g, (atA l rds.length).tree)], .int .i64 (atA l rds.length).err]) ∧
        ScIs base w' sb s p lev av rv' lv' (rds ++ [((rdOf f lev).1, (rdOf f lev).2.1, (rdOf f lev).2.2.2)]) (gl ++ [(g, (atA l rds.length).tree)]) true ∧ w.heap.size ≤ g ∧ KeepT base [35, 51, 36] false w w' := by
  have H := Lib.hid (show StIs base w s m sv (F ++ [(p, f)]) ∧ ScIs base w sb s p lev av rv lv rds gl true ∧ AnsS base w av l from ⟨hs, hc, ha⟩)
  have Hn := Lib.hid hn
  have Hg := Lib.hid hg
  have Hf := Lib.hid hf
  have Ht := Lib.hid ht
  have Hr := Lib.hid hr
  have hbw : base ≤ w.heap.size := by have := lt_of_block hc.blk; have := hc.bs; omega
  have Hbw := Lib.hid hbw
  obtain ⟨c0, c1, c2, c3, c4, c5, c6, c7, f5, f6, f7⟩ := hc.cells
  obtain ⟨rao, rcap, rfl⟩ := own_val hc.row
  obtain ⟨lao, lcap, rfl⟩ := own_val hc.lnt
  obtain ⟨aao, acap, rfl⟩ := ha.at.val
  clear hs hc ha hg hn hf ht hr hbw
  obtain ⟨n, hn⟩ : ∃ n, n = rds.length := ⟨_, rfl⟩
  rw [← hn] at Hn Ht Hr Hg ⊢
  rw [← hn] at c5 H
  obtain ⟨k, hk⟩ : ∃ k, k = gl.length := ⟨_, rfl⟩
  rw [← hk] at c6 Hg H
  obtain ⟨z, hz⟩ : ∃ z, z = l.length := ⟨_, rfl⟩
  rw [← hz] at c4 H
  have HN := Lib.hid hn
  have HK := Lib.hid hk
  have HZ := Lib.hid hz
  clear hn hk hz
  go_enter Try.func11, Try.ntmps11
  go_upto_region 1 with (fail)
  refine gen_world (S := fun u => Below w.heap.size w u ∧ u.heap[w.heap.size]? = some (.cells #[.bool false, .int .i64 0, .int .i64 0, .slice none 0 0] 38 (0, 0))) (one_new w _) (fun u hu => ?_)
  obtain ⟨hb, h1⟩ := hu
  have hM : Mid base w u s m sv (F ++ [(p, f)]) sb p lev (.slice aao z acap) (.slice rao n rcap) (.slice lao k lcap) rds gl true l := ⟨H.out.1.later hb, H.out.2.1.later hb, H.out.2.2.later hb, h1, KeepT.ofBelow hb⟩
  have M := Lib.hid hM
  clear H c0 c1 c2 c3 c4 c5 c6 c7 f5 f6 f7 hb h1
  obtain ⟨c0, c1, c2, c3, c4, c5, c6, c7, f5, f6, f7⟩ := hM.sc.cells
  clear hM
  go_upto_region 2 with (fail)
  go_cut [5, 6] (fun y5 y6 w1 => ∃ Y v', y5 = .pointer (some ⟨Y, 0, none⟩) ∧ y6 = .int .i64 (rdOf f lev).2.2.2 ∧ Mid base w w1 s m sv (F ++ [(p, f)]) sb p lev (.slice aao z acap) (.slice rao n rcap) (.slice lao k lcap) rds gl true l ∧ w.heap.size ≤ Y ∧ Y ≠ w.heap.size ∧ w1.heap[Y]? = some (.cells #[.int .i64 (rdOf f lev).1, .int .i64 (rdOf f lev).2.1, v'] 74 (0, 0)) ∧ TwIn w1 v' (rdOf f lev).2.2.1)
  case first =>
    have hd := (Below.refl u.heap.size u).drew
    have HDr := Lib.hid hd
    clear hd
    refine wp_region_held_drew (S := fun wq => Below u.heap.size u wq) (by kernel_rfl) HDr.out (fun hS => ?_)
    refine wpAnyH_take (i := 0) (oi := ⟨_, _, _, _, _, _⟩) (v := ?v1) rfl (by kernel_rfl) (by kernel_rfl) (by kernel_rfl) (fun _ _ _ h => h) ?y1 hS ?_
    case y1 => first | (refine Or.inr ⟨by rfl, ?_⟩; with_reducible rfl) | (refine Or.inl ⟨by rfl, ?_⟩; intro wS hSw; obtain ⟨c0S, c1S, c2S, c3S, -⟩ := (M.out.later hSw).sc.cells; go_simp; try with_reducible rfl)
    simp only [Act.put, List.setIfInBounds_toArray, List.set_cons_zero, List.set_cons_succ]
    refine wpAnyH_take (i := 1) (oi := ⟨_, _, _, _, _, _⟩) (v := ?v2) rfl (by kernel_rfl) (by kernel_rfl) (by kernel_rfl) (fun _ _ _ h => h) ?y2 hS ?_
    case y2 => first | (refine Or.inr ⟨by rfl, ?_⟩; with_reducible rfl) | (refine Or.inl ⟨by rfl, ?_⟩; intro wS hSw; obtain ⟨c0S, c1S, c2S, c3S, -⟩ := (M.out.later hSw).sc.cells; go_simp; try with_reducible rfl)
    simp only [Act.put, List.setIfInBounds_toArray, List.set_cons_zero, List.set_cons_succ]
    refine wpAnyH_take (i := 2) (oi := ⟨_, _, _, _, _, _⟩) (v := ?v3) rfl (by kernel_rfl) (by kernel_rfl) (by kernel_rfl) (fun _ _ _ h => h) ?y3 hS ?_
    case y3 => first | (refine Or.inr ⟨by rfl, ?_⟩; with_reducible rfl) | (refine Or.inl ⟨by rfl, ?_⟩; intro wS hSw; obtain ⟨c0S, c1S, c2S, c3S, -⟩ := (M.out.later hSw).sc.cells; go_simp; try with_reducible rfl)
    simp only [Act.put, List.setIfInBounds_toArray, List.set_cons_zero, List.set_cons_succ]
    refine wpAnyH_take (i := 3) (oi := ⟨_, _, _, _, _, _⟩) (v := ?v4) rfl (by kernel_rfl) (by kernel_rfl) (by kernel_rfl) (fun _ _ _ h => h) ?y4 hS ?_
    case y4 => first | (refine Or.inr ⟨by rfl, ?_⟩; with_reducible rfl) | (refine Or.inl ⟨by rfl, ?_⟩; intro wS hSw; obtain ⟨c0S, c1S, c2S, c3S, -⟩ := (M.out.later hSw).sc.cells; go_simp; try with_reducible rfl)
    simp only [Act.put, List.setIfInBounds_toArray, List.set_cons_zero, List.set_cons_succ]
    refine wpAnyH_take (i := 4) (oi := ⟨_, _, _, _, _, _⟩) (v := ?v5) rfl (by kernel_rfl) (by kernel_rfl) (by kernel_rfl) (fun _ _ _ h => h) ?y5 hS ?_
    case y5 => first | (refine Or.inr ⟨by rfl, ?_⟩; with_reducible rfl) | (refine Or.inl ⟨by rfl, ?_⟩; intro wS hSw; obtain ⟨c0S, c1S, c2S, c3S, -⟩ := (M.out.later hSw).sc.cells; go_simp; try with_reducible rfl)
    simp only [Act.put, List.setIfInBounds_toArray, List.set_cons_zero, List.set_cons_succ]
    refine wpAnyH_take (i := 5) (oi := ⟨_, _, _, _, _, _⟩) (v := ?v6) rfl (by kernel_rfl) (by kernel_rfl) (by kernel_rfl) (fun _ _ _ h => h) ?y6 hS ?_
    case y6 => first | (refine Or.inr ⟨by rfl, ?_⟩; with_reducible rfl) | (refine Or.inl ⟨by rfl, ?_⟩; intro wS hSw; obtain ⟨c0S, c1S, c2S, c3S, -⟩ := (M.out.later hSw).sc.cells; go_simp; try with_reducible rfl)
    simp only [Act.put, List.setIfInBounds_toArray, List.set_cons_zero, List.set_cons_succ]
    refine wpAnyH_take (i := 6) (oi := ⟨_, _, _, _, _, _⟩) (v := ?v7) rfl (by kernel_rfl) (by kernel_rfl) (by kernel_rfl) (fun _ _ _ h => h) ?y7 hS ?_
    case y7 => first | (refine Or.inr ⟨by rfl, ?_⟩; with_reducible rfl) | (refine Or.inl ⟨by rfl, ?_⟩; intro wS hSw; obtain ⟨c0S, c1S, c2S, c3S, -⟩ := (M.out.later hSw).sc.cells; go_simp; try with_reducible rfl)
    simp only [Act.put, List.setIfInBounds_toArray, List.set_cons_zero, List.set_cons_succ]
    refine wpAnyH_take (i := 7) (oi := ⟨_, _, _, _, _, _⟩) (v := ?v8) rfl (by kernel_rfl) (by kernel_rfl) (by kernel_rfl) (fun _ _ _ h => h) ?y8 hS ?_
    case y8 => first | (refine Or.inr ⟨by rfl, ?_⟩; with_reducible rfl) | (refine Or.inl ⟨by rfl, ?_⟩; intro wS hSw; obtain ⟨c0S, c1S, c2S, c3S, -⟩ := (M.out.later hSw).sc.cells; go_simp; try with_reducible rfl)
    simp only [Act.put, List.setIfInBounds_toArray, List.set_cons_zero, List.set_cons_succ]
    refine wpAnyH_take (i := 8) (oi := ⟨_, _, _, _, _, _⟩) (v := ?v9) rfl (by kernel_rfl) (by kernel_rfl) (by kernel_rfl) (fun _ _ _ h => h) ?y9 hS ?_
    case y9 => first | (refine Or.inr ⟨by rfl, ?_⟩; with_reducible rfl) | (refine Or.inl ⟨by rfl, ?_⟩; intro wS hSw; obtain ⟨c0S, c1S, c2S, c3S, -⟩ := (M.out.later hSw).sc.cells; go_simp; try with_reducible rfl)
    simp only [Act.put, List.setIfInBounds_toArray, List.set_cons_zero, List.set_cons_succ]
    refine wpAnyH_take (i := 9) (oi := ⟨_, _, _, _, _, _⟩) (v := ?v10) rfl (by kernel_rfl) (by kernel_rfl) (by kernel_rfl) (fun _ _ _ h => h) ?y10 hS ?_
    case y10 => first | (refine Or.inr ⟨by rfl, ?_⟩; with_reducible rfl) | (refine Or.inl ⟨by rfl, ?_⟩; intro wS hSw; obtain ⟨c0S, c1S, c2S, c3S, -⟩ := (M.out.later hSw).sc.cells; go_simp; try with_reducible rfl)
    simp only [Act.put, List.setIfInBounds_toArray, List.set_cons_zero, List.set_cons_succ]
    refine wpAnyH_take (i := 10) (oi := ⟨_, _, _, _, _, _⟩) (v := ?v11) rfl (by kernel_rfl) (by kernel_rfl) (by kernel_rfl) (fun _ _ _ h => h) ?y11 hS ?_
    case y11 => first | (refine Or.inr ⟨by rfl, ?_⟩; with_reducible rfl) | (refine Or.inl ⟨by rfl, ?_⟩; intro wS hSw; obtain ⟨c0S, c1S, c2S, c3S, -⟩ := (M.out.later hSw).sc.cells; go_simp; try with_reducible rfl)
    simp only [Act.put, List.setIfInBounds_toArray, List.set_cons_zero, List.set_cons_succ]
    refine wpAnyH_take (i := 11) (oi := ⟨_, _, _, _, _, _⟩) (v := ?v12) rfl (by kernel_rfl) (by kernel_rfl) (by kernel_rfl) (fun _ _ _ h => h) ?y12 hS ?_
    case y12 => first | (refine Or.inr ⟨by rfl, ?_⟩; with_reducible rfl) | (refine Or.inl ⟨by rfl, ?_⟩; intro wS hSw; obtain ⟨c0S, c1S, c2S, c3S, -⟩ := (M.out.later hSw).sc.cells; go_simp; try with_reducible rfl)
    simp only [Act.put, List.setIfInBounds_toArray, List.set_cons_zero, List.set_cons_succ]
    refine wpAnyH_take (i := 12) (oi := ⟨_, _, _, _, _, _⟩) (v := ?v13) rfl (by kernel_rfl) (by kernel_rfl) (by kernel_rfl) (fun _ _ _ h => h) ?y13 hS ?_
    case y13 => first | (refine Or.inr ⟨by rfl, ?_⟩; with_reducible rfl) | (refine Or.inl ⟨by rfl, ?_⟩; intro wS hSw; obtain ⟨c0S, c1S, c2S, c3S, -⟩ := (M.out.later hSw).sc.cells; go_simp; try with_reducible rfl)
    simp only [Act.put, List.setIfInBounds_toArray, List.set_cons_zero, List.set_cons_succ]
    refine wpAnyH_take (i := 13) (oi := ⟨_, _, _, _, _, _⟩) (v := ?v14) rfl (by kernel_rfl) (by kernel_rfl) (by kernel_rfl) (fun _ _ _ h => h) ?y14 hS ?_
    case y14 => first | (refine Or.inr ⟨by rfl, ?_⟩; with_reducible rfl) | (refine Or.inl ⟨by rfl, ?_⟩; intro wS hSw; obtain ⟨c0S, c1S, c2S, c3S, -⟩ := (M.out.later hSw).sc.cells; go_simp; try with_reducible rfl)
    simp only [Act.put, List.setIfInBounds_toArray, List.set_cons_zero, List.set_cons_succ]
    refine wpAnyH_take (i := 14) (oi := ⟨_, _, _, _, _, _⟩) (v := ?v15) rfl (by kernel_rfl) (by kernel_rfl) (by kernel_rfl) (fun _ _ _ h => h) ?y15 hS ?_
    case y15 => first | (refine Or.inr ⟨by rfl, ?_⟩; with_reducible rfl) | (refine Or.inl ⟨by rfl, ?_⟩; intro wS hSw; obtain ⟨c0S, c1S, c2S, c3S, -⟩ := (M.out.later hSw).sc.cells; go_simp; try with_reducible rfl)
    simp only [Act.put, List.setIfInBounds_toArray, List.set_cons_zero, List.set_cons_succ]
    refine wpAnyH_take (i := 15) (oi := ⟨_, _, _, _, _, _⟩) (v := ?v16) rfl (by kernel_rfl) (by kernel_rfl) (by kernel_rfl) (fun _ _ _ h => h) ?y16 hS ?_
    case y16 => first | (refine Or.inr ⟨by rfl, ?_⟩; with_reducible rfl) | (refine Or.inl ⟨by rfl, ?_⟩; intro wS hSw; obtain ⟨c0S, c1S, c2S, c3S, -⟩ := (M.out.later hSw).sc.cells; go_simp; try with_reducible rfl)
    simp only [Act.put, List.setIfInBounds_toArray, List.set_cons_zero, List.set_cons_succ]
    refine wpAnyH_take (i := 16) (oi := ⟨_, _, _, _, _, _⟩) (v := ?v17) rfl (by kernel_rfl) (by kernel_rfl) (by kernel_rfl) (fun _ _ _ h => h) ?y17 hS ?_
    case y17 => first | (refine Or.inr ⟨by rfl, ?_⟩; with_reducible rfl) | (refine Or.inl ⟨by rfl, ?_⟩; intro wS hSw; obtain ⟨c0S, c1S, c2S, c3S, -⟩ := (M.out.later hSw).sc.cells; go_simp; try with_reducible rfl)
    simp only [Act.put, List.setIfInBounds_toArray, List.set_cons_zero, List.set_cons_succ]
    refine wpAnyH_take (i := 17) (oi := ⟨_, _, _, _, _, _⟩) (v := ?v18) rfl (by kernel_rfl) (by kernel_rfl) (by kernel_rfl) (fun _ _ _ h => h) ?y18 hS ?_
    case y18 => first | (refine Or.inr ⟨by rfl, ?_⟩; with_reducible rfl) | (refine Or.inl ⟨by rfl, ?_⟩; intro wS hSw; obtain ⟨c0S, c1S, c2S, c3S, -⟩ := (M.out.later hSw).sc.cells; go_simp; try with_reducible rfl)
    simp only [Act.put, List.setIfInBounds_toArray, List.set_cons_zero, List.set_cons_succ]
    refine wpAnyH_ready (rs := [18, 22]) (by kernel_rfl) (by simp) ?_
    refine AllReadyH.cons (o := ⟨_, _, _, _, _, _⟩) rfl (fun K hK => ?_) (AllReadyH.cons (o := ⟨_, _, _, _, _, _⟩) rfl (fun K hK => ?_) AllReadyH.nil)
    · go_simp
      refine (st_Read lev _ (M.out.later HDr.out).st (by simp) Hf.out).mono ?_
      rintro e wx ⟨⟨v', rfl, hT⟩, hb⟩
      obtain ⟨tao, tcap, rfl⟩ := hT.1.val
      go_wp2_with fail
      have hb := HDr.out.trans hb
      refine hK.out _ _ (hb) (fun _ => ?_)
      clear hK K
      try simp only [Act.put, List.setIfInBounds_toArray, List.set_cons_zero, List.set_cons_succ]
      refine wpAnyH_take (i := 19) (oi := ⟨_, _, _, _, _, _⟩) (v := ?v19) rfl (by kernel_rfl) (by kernel_rfl) (by kernel_rfl) (fun _ _ _ h => h) ?y19 hb ?_
      case y19 => first | (refine Or.inr ⟨by rfl, ?_⟩; with_reducible rfl) | (refine Or.inl ⟨by rfl, ?_⟩; intro wS hSw; go_simp; try with_reducible rfl)
      simp only [Act.put, List.setIfInBounds_toArray, List.set_cons_zero, List.set_cons_succ]
      refine wpAnyH_take (i := 20) (oi := ⟨_, _, _, _, _, _⟩) (v := ?v20) rfl (by kernel_rfl) (by kernel_rfl) (by kernel_rfl) (fun _ _ _ h => h) ?y20 hb ?_
      case y20 => first | (refine Or.inr ⟨by rfl, ?_⟩; with_reducible rfl) | (refine Or.inl ⟨by rfl, ?_⟩; intro wS hSw; go_simp; try with_reducible rfl)
      simp only [Act.put, List.setIfInBounds_toArray, List.set_cons_zero, List.set_cons_succ]
      refine wpAnyH_take (i := 21) (oi := ⟨_, _, _, _, _, _⟩) (v := ?v21) rfl (by kernel_rfl) (by kernel_rfl) (by kernel_rfl) (fun _ _ _ h => h) ?y21 hb ?_
      case y21 => first | (refine Or.inr ⟨by rfl, ?_⟩; with_reducible rfl) | (refine Or.inl ⟨by rfl, ?_⟩; intro wS hSw; go_simp; try with_reducible rfl)
      simp only [Act.put, List.setIfInBounds_toArray, List.set_cons_zero, List.set_cons_succ]
      have HT := Lib.hid hT
      refine wpAnyH_ready (rs := [22]) (by kernel_rfl) (by simp) ?_
      refine AllReadyH.cons (o := ⟨_, _, _, _, _, _⟩) rfl (fun K hK => ?_) AllReadyH.nil
      go_simp
      refine hK.out _ _ (hb.alloc hb.size _) (fun _ => ?_)
      clear hK K
      try simp only [Act.put, List.setIfInBounds_toArray, List.set_cons_zero, List.set_cons_succ]
      have hx := heap_alloc_new wx (.cells #[.int .i64 0, .int .i64 0, .slice none 0 0] 74)
      have hbx := hb.alloc hb.size (.cells #[.int .i64 0, .int .i64 0, .slice none 0 0] 74)
      have hTx := HT.out.later ((Below.refl wx.heap.size wx).alloc (Nat.le_refl _) (.cells #[.int .i64 0, .int .i64 0, .slice none 0 0] 74))
      have hYx : u.heap.size ≤ wx.heap.size := hb.size
      obtain ⟨Y, hY⟩ : ∃ Y, Y = wx.heap.size := ⟨_, rfl⟩
      rw [← hY] at hx hYx ⊢
      clear hY hT HT
      generalize wx.alloc (.cells #[.int .i64 0, .int .i64 0, .slice none 0 0] 74) = wy at *
      obtain ⟨d0, d1, d2, g0, g1, g2⟩ := three_box hx
      have HX := Lib.hid hx
      clear hx
      refine wpAnyH_ready (rs := [23]) (by kernel_rfl) (by simp) ?_
      refine AllReadyH.cons (o := ⟨_, _, _, _, _, _⟩) rfl (fun K hK => ?_) AllReadyH.nil
      go_simp
      obtain ⟨q, hq⟩ := set3 HX.out (.int .i64 (rdOf f lev).1) (.int .i64 (rdOf f lev).2.1) (.slice tao (rdOf f lev).2.2.1.length tcap)
      have hbf := Below.keeps hbx hq hYx
      refine hK.out _ _ (hbf) (fun _ => ?_)
      clear hK K
      try simp only [Act.put, List.setIfInBounds_toArray, List.set_cons_zero, List.set_cons_succ]
      refine wpAnyH_take (i := 24) (oi := ⟨_, _, _, _, _, _⟩) (v := ?v22) rfl (by kernel_rfl) (by kernel_rfl) (by kernel_rfl) (fun _ _ _ h => h) ?y22 hbf ?_
      case y22 => first | (refine Or.inr ⟨by rfl, ?_⟩; with_reducible rfl) | (refine Or.inl ⟨by rfl, ?_⟩; intro wS hSw; go_simp; try with_reducible rfl)
      simp only [Act.put, List.setIfInBounds_toArray, List.set_cons_zero, List.set_cons_succ]
      refine wpAnyH_done (by kernel_rfl) ?_ _
      go_wp2_with fail
      go_meet
      exact ⟨_, _, rfl, rfl, M.out.later hbf, by have := M.out.kp.size; omega, by have := lt_of_block M.out.res; omega, q, hTx.keepT (base := 0) (T := [74]) (mp := false) (Keeps.mono hq fun k _ e => by subst e; exact ⟨Nat.zero_le _, by unfold Tyb; rw [HX.out]; simp⟩) (by simp)⟩
    · go_simp
      refine hK.out _ _ (HDr.out.alloc (Nat.le_refl _) _) (fun _ => ?_)
      clear hK K
      try simp only [Act.put, List.setIfInBounds_toArray, List.set_cons_zero, List.set_cons_succ]
      refine wpAnyH_ready (rs := [18]) (by kernel_rfl) (by simp) ?_
      refine AllReadyH.cons (o := ⟨_, _, _, _, _, _⟩) rfl (fun K hK => ?_) AllReadyH.nil
      go_simp
      refine (st_Read lev _ (M.out.later (HDr.out.alloc (Nat.le_refl _) (.cells #[.int .i64 0, .int .i64 0, .slice none 0 0] 74))).st (by simp) Hf.out).mono ?_
      rintro e wx ⟨⟨v', rfl, hT⟩, hb⟩
      obtain ⟨tao, tcap, rfl⟩ := hT.1.val
      go_wp2_with fail
      have hx := (hb.block u.heap.size (by simp)).trans (heap_alloc_new u.drew (.cells #[.int .i64 0, .int .i64 0, .slice none 0 0] 74))
      have hbx := (HDr.out.alloc (Nat.le_refl _) (.cells #[.int .i64 0, .int .i64 0, .slice none 0 0] 74)).trans (hb.mono (by simp))
      refine hK.out _ _ (hbx) (fun _ => ?_)
      clear hK K
      try simp only [Act.put, List.setIfInBounds_toArray, List.set_cons_zero, List.set_cons_succ]
      refine wpAnyH_take (i := 19) (oi := ⟨_, _, _, _, _, _⟩) (v := ?v23) rfl (by kernel_rfl) (by kernel_rfl) (by kernel_rfl) (fun _ _ _ h => h) ?y23 hbx ?_
      case y23 => first | (refine Or.inr ⟨by rfl, ?_⟩; with_reducible rfl) | (refine Or.inl ⟨by rfl, ?_⟩; intro wS hSw; go_simp; try with_reducible rfl)
      simp only [Act.put, List.setIfInBounds_toArray, List.set_cons_zero, List.set_cons_succ]
      refine wpAnyH_take (i := 20) (oi := ⟨_, _, _, _, _, _⟩) (v := ?v24) rfl (by kernel_rfl) (by kernel_rfl) (by kernel_rfl) (fun _ _ _ h => h) ?y24 hbx ?_
      case y24 => first | (refine Or.inr ⟨by rfl, ?_⟩; with_reducible rfl) | (refine Or.inl ⟨by rfl, ?_⟩; intro wS hSw; go_simp; try with_reducible rfl)
      simp only [Act.put, List.setIfInBounds_toArray, List.set_cons_zero, List.set_cons_succ]
      refine wpAnyH_take (i := 21) (oi := ⟨_, _, _, _, _, _⟩) (v := ?v25) rfl (by kernel_rfl) (by kernel_rfl) (by kernel_rfl) (fun _ _ _ h => h) ?y25 hbx ?_
      case y25 => first | (refine Or.inr ⟨by rfl, ?_⟩; with_reducible rfl) | (refine Or.inl ⟨by rfl, ?_⟩; intro wS hSw; go_simp; try with_reducible rfl)
      simp only [Act.put, List.setIfInBounds_toArray, List.set_cons_zero, List.set_cons_succ]
      have hTx := hT
      have hYx := Nat.le_refl u.heap.size
      clear hT
      generalize wx = wy at *
      obtain ⟨d0, d1, d2, g0, g1, g2⟩ := three_box hx
      have HX := Lib.hid hx
      clear hx
      refine wpAnyH_ready (rs := [23]) (by kernel_rfl) (by simp) ?_
      refine AllReadyH.cons (o := ⟨_, _, _, _, _, _⟩) rfl (fun K hK => ?_) AllReadyH.nil
      go_simp
      obtain ⟨q, hq⟩ := set3 HX.out (.int .i64 (rdOf f lev).1) (.int .i64 (rdOf f lev).2.1) (.slice tao (rdOf f lev).2.2.1.length tcap)
      have hbf := Below.keeps hbx hq hYx
      refine hK.out _ _ (hbf) (fun _ => ?_)
      clear hK K
      try simp only [Act.put, List.setIfInBounds_toArray, List.set_cons_zero, List.set_cons_succ]
      refine wpAnyH_take (i := 24) (oi := ⟨_, _, _, _, _, _⟩) (v := ?v26) rfl (by kernel_rfl) (by kernel_rfl) (by kernel_rfl) (fun _ _ _ h => h) ?y26 hbf ?_
      case y26 => first | (refine Or.inr ⟨by rfl, ?_⟩; with_reducible rfl) | (refine Or.inl ⟨by rfl, ?_⟩; intro wS hSw; go_simp; try with_reducible rfl)
      simp only [Act.put, List.setIfInBounds_toArray, List.set_cons_zero, List.set_cons_succ]
      refine wpAnyH_done (by kernel_rfl) ?_ _
      go_wp2_with fail
      go_meet
      exact ⟨_, _, rfl, rfl, M.out.later hbf, by have := M.out.kp.size; omega, by have := lt_of_block M.out.res; omega, q, hTx.keepT (base := 0) (T := [74]) (mp := false) (Keeps.mono hq fun k _ e => by subst e; exact ⟨Nat.zero_le _, by unfold Tyb; rw [HX.out]; simp⟩) (by simp)⟩
  case rest =>
    obtain ⟨Y, v', rfl, rfl, hM, hY1, hY2, hYb, hT⟩ := hcut
    obtain ⟨tao, tcap, rfl⟩ := hT.1.val
    clear c0 c1 c2 c3 c4 c5 c6 c7 f5 f6 f7 M
    have M := Lib.hid hM
    have HY := Lib.hid (show w.heap.size ≤ Y ∧ Y ≠ w.heap.size from ⟨hY1, hY2⟩)
    have HYb := Lib.hid hYb
    have HT := Lib.hid hT
    obtain ⟨-, -, -, -, -, c5, -, -, f5, -, -⟩ := hM.sc.cells
    obtain ⟨d0, d1, -, -, -, -⟩ := three_box hYb
    clear hM hY1 hY2 hYb hT
    go_upto_region 3 with (fail)
    go_cut [] (fun w1 => ∃ rv', Mid base w w1 s m sv (F ++ [(p, f)]) sb p lev (.slice aao z acap) rv' (.slice lao k lcap) (rds ++ [((rdOf f lev).1, (rdOf f lev).2.1, (rdOf f lev).2.2.2)]) gl true l ∧ w1.heap[Y]? = some (.cells #[.int .i64 (rdOf f lev).1, .int .i64 (rdOf f lev).2.1, .slice tao (rdOf f lev).2.2.1.length tcap] 74 (0, 0)) ∧ TwIn w1 (.slice tao (rdOf f lev).2.2.1.length tcap) (rdOf f lev).2.2.1)
    case first =>
      obtain ⟨i0, hi0, hz0, hz1, hz2⟩ := info_parts Try.infoRead
      have hrow : wc.ownsRow base 51 3 (.slice rao n rcap) n (rds.flatMap rdc) := by have := M.out.sc.row; rwa [← HN.out] at this
      have hru := lt_of_block M.out.sc.blk
      have Hne := Lib.hid (own_ne' M.out.sc.blk (by decide) hrow)
      have Hrow := Lib.hid hrow
      have hn5 := Hn.out
      have hbw : base ≤ wc.heap.size := by have := M.out.kp.size; have := Hbw.out; omega
      clear hrow
      go_region_law (refine step_append_lies _ (by rfl) _ _ _ (by rfl) base 51 i0 _ 3 24 Try.underlying32 hi0 hz0 hz1 hz2 rfl (by omega) (.slice rao n rcap) n (rds.flatMap rdc) (by rfl) (((Keeps.drew (Keeps.refl (fun _ => False) wc)).row Hrow.out (fun _ _ h => h)).alloc _) ⟨wc.heap.size, 0, none⟩ 1 1 [.int .i64 (rdOf f lev).1, .int .i64 (rdOf f lev).2.1, .int .i64 (rdOf f lev).2.2.2] (by rfl) (by rfl) (World.news_of_block (cs := #[.int .i64 (rdOf f lev).1, .int .i64 (rdOf f lev).2.1, .int .i64 (rdOf f lev).2.2.2]) (t := 51) (fr := (0, 0)) (heap_alloc_new wc.drew _)) (by simp [Value.oneCell']) (by omega) (by unfold maxLen; omega) (by omega) (by simp; omega) (wc.heap.size + 1) (by simp) ?_; intro g cap w2 hown2 hgrow hat hlt; have e0 := (hgrow.cell_far ⟨sb, 5, none⟩ (by simp; omega) (Ne.symm Hne.out)).trans ((World.cell?_alloc_old wc.drew _ ⟨sb, 5, none⟩ (by simp <;> omega)).trans c5); have e1 := (hgrow.frozen_far ⟨sb, 5, none⟩ (by simp; omega) (Ne.symm Hne.out)).trans ((Below.frozen (p := ⟨sb, 5, none⟩) ((Below.refl wc.heap.size wc).drew.alloc (Nat.le_refl _) _) hru).trans f5))
      all_goals go_wp2_with fail
      all_goals go_meet
      all_goals
        obtain ⟨q1, q2⟩ := sc_reads (r := ((rdOf f lev).1, (rdOf f lev).2.1, (rdOf f lev).2.2.2)) M.out.sc ((Below.refl wc.heap.size wc).drew.alloc (Nat.le_refl _) _) (by rw [← HN.out]; exact hown2) hgrow (fun k hk => by simp [Value.ownBlock] at hk; subst hk; rcases hat with h | h; (exact .inl h); (exact .inr (by omega))) (by rw [← HN.out]; exact Hn.out)
        exact ⟨_, ⟨M.out.st.keepT q2 (by decide) (by decide) (by decide), q1, M.out.an.keep (KeepT.mono q2 (by decide) (fun h => by simp at h)), q2.cells M.out.res (by decide), KeepT.trans M.out.kp (KeepT.mono q2 (by decide) (fun h => h))⟩, q2.cells HYb.out (by decide), HT.out.keepT q2 (by decide)⟩
    case rest =>
      obtain ⟨rv', hM, hYb, hT⟩ := hcut
      clear c5 f5 d0 d1 M HYb HT
      obtain ⟨rao', rcap', rfl⟩ := own_val hM.sc.row
      have M := Lib.hid hM
      have HYb := Lib.hid hYb
      have HT := Lib.hid hT
      obtain ⟨c0, -, -, -, -, -, -, -, -, -, -⟩ := hM.sc.cells
      clear hM hYb hT
      go_upto_region 5 with (go_at_call 26; refine (st_Last _ M.out.st).mono ?_; rintro e w3 ⟨rfl, hb3⟩; have hM := M.out.later hb3; have hYb := (hb3.block _ (lt_of_block HYb.out)).trans HYb.out; have hT := HT.out.later hb3; clear hb3)
      clear c0 M HYb HT
      have M := Lib.hid hM
      have HYb := Lib.hid hYb
      have HT := Lib.hid hT
      clear hM hYb hT
      go_cut [] (fun w1 => Mid base w w1 s m sv (F ++ [(p, f)]) sb p lev (.slice aao z acap) (.slice rao' (rds ++ [((rdOf f lev).1, (rdOf f lev).2.1, (rdOf f lev).2.2.2)]).length rcap') (.slice lao k lcap) (rds ++ [((rdOf f lev).1, (rdOf f lev).2.1, (rdOf f lev).2.2.2)]) gl true l)
      case first =>
        have HDr := Lib.hid ((Below.refl w3.heap.size w3).drew)
        rcases Hr.out with h0 | ⟨hr1, hr2, hr3⟩
        · have hz : ((n : Int) == 0) = true := by simp; omega
          have hz2 : decide (n = 0) = true := by simpa using h0
          clear h0
          refine wp_region_held_drew (S := fun wq => Mid base w wq s m sv (F ++ [(p, f)]) sb p lev (.slice aao z acap) (.slice rao' (rds ++ [((rdOf f lev).1, (rdOf f lev).2.1, (rdOf f lev).2.2.2)]).length rcap') (.slice lao k lcap) (rds ++ [((rdOf f lev).1, (rdOf f lev).2.1, (rdOf f lev).2.2.2)]) gl true l ∧ wq.heap[Y]? = some (.cells #[.int .i64 (rdOf f lev).1, .int .i64 (rdOf f lev).2.1, .slice tao (rdOf f lev).2.2.1.length tcap] 74 (0, 0)) ∧ TwIn wq (.slice tao (rdOf f lev).2.2.1.length tcap) (rdOf f lev).2.2.1) (by kernel_rfl) ⟨M.out.later HDr.out, (HDr.out.block _ (lt_of_block HYb.out)).trans HYb.out, HT.out.later HDr.out⟩ (fun hS => ?_)
          refine wpAnyH_take (i := 0) (oi := ⟨_, _, _, _, _, _⟩) (v := ?v27) rfl (by kernel_rfl) (by kernel_rfl) (by kernel_rfl) (fun _ _ _ h => h) ?y27 hS ?_
          case y27 => first | (refine Or.inr ⟨by rfl, ?_⟩; with_reducible rfl) | (refine Or.inl ⟨by rfl, ?_⟩; intro wS hSw; obtain ⟨c0S, c1S, c2S, c3S, c4S, -, -, c7S, -, -, -⟩ := hSw.1.sc.cells; obtain ⟨-, -, d2S, -, -, -⟩ := three_box hSw.2.1; go_simp; try with_reducible rfl)
          simp only [Act.put, List.setIfInBounds_toArray, List.set_cons_zero, List.set_cons_succ]
          refine wpAnyH_take (i := 1) (oi := ⟨_, _, _, _, _, _⟩) (v := ?v28) rfl (by kernel_rfl) (by kernel_rfl) (by kernel_rfl) (fun _ _ _ h => h) ?y28 hS ?_
          case y28 => first | (refine Or.inr ⟨by rfl, ?_⟩; with_reducible rfl) | (refine Or.inl ⟨by rfl, ?_⟩; intro wS hSw; obtain ⟨c0S, c1S, c2S, c3S, c4S, -, -, c7S, -, -, -⟩ := hSw.1.sc.cells; obtain ⟨-, -, d2S, -, -, -⟩ := three_box hSw.2.1; go_simp; try with_reducible rfl)
          simp only [Act.put, List.setIfInBounds_toArray, List.set_cons_zero, List.set_cons_succ]
          refine wpAnyH_take (i := 2) (oi := ⟨_, _, _, _, _, _⟩) (v := ?v29) rfl (by kernel_rfl) (by kernel_rfl) (by kernel_rfl) (fun _ _ _ h => h) ?y29 hS ?_
          case y29 => first | (refine Or.inr ⟨by rfl, ?_⟩; with_reducible rfl) | (refine Or.inl ⟨by rfl, ?_⟩; intro wS hSw; obtain ⟨c0S, c1S, c2S, c3S, c4S, -, -, c7S, -, -, -⟩ := hSw.1.sc.cells; obtain ⟨-, -, d2S, -, -, -⟩ := three_box hSw.2.1; go_simp; try with_reducible rfl)
          simp only [Act.put, List.setIfInBounds_toArray, List.set_cons_zero, List.set_cons_succ]
          refine wpAnyH_take (i := 3) (oi := ⟨_, _, _, _, _, _⟩) (v := ?v30) rfl (by kernel_rfl) (by kernel_rfl) (by kernel_rfl) (fun _ _ _ h => h) ?y30 hS ?_
          case y30 => first | (refine Or.inr ⟨by rfl, ?_⟩; with_reducible rfl) | (refine Or.inl ⟨by rfl, ?_⟩; intro wS hSw; obtain ⟨c0S, c1S, c2S, c3S, c4S, -, -, c7S, -, -, -⟩ := hSw.1.sc.cells; obtain ⟨-, -, d2S, -, -, -⟩ := three_box hSw.2.1; go_simp; try with_reducible rfl)
          simp only [Act.put, List.setIfInBounds_toArray, List.set_cons_zero, List.set_cons_succ]
          refine wpAnyH_take (i := 4) (oi := ⟨_, _, _, _, _, _⟩) (v := ?v31) rfl (by kernel_rfl) (by kernel_rfl) (by kernel_rfl) (fun _ _ _ h => h) ?y31 hS ?_
          case y31 => first | (refine Or.inr ⟨by rfl, ?_⟩; with_reducible rfl) | (refine Or.inl ⟨by rfl, ?_⟩; intro wS hSw; obtain ⟨c0S, c1S, c2S, c3S, c4S, -, -, c7S, -, -, -⟩ := hSw.1.sc.cells; obtain ⟨-, -, d2S, -, -, -⟩ := three_box hSw.2.1; go_simp; try with_reducible rfl)
          simp only [Act.put, List.setIfInBounds_toArray, List.set_cons_zero, List.set_cons_succ]
          refine wpAnyH_take (i := 5) (oi := ⟨_, _, _, _, _, _⟩) (v := ?v32) rfl (by kernel_rfl) (by kernel_rfl) (by kernel_rfl) (fun _ _ _ h => h) ?y32 hS ?_
          case y32 => first | (refine Or.inr ⟨by rfl, ?_⟩; with_reducible rfl) | (refine Or.inl ⟨by rfl, ?_⟩; intro wS hSw; obtain ⟨c0S, c1S, c2S, c3S, c4S, -, -, c7S, -, -, -⟩ := hSw.1.sc.cells; obtain ⟨-, -, d2S, -, -, -⟩ := three_box hSw.2.1; go_simp; try with_reducible rfl)
          simp only [Act.put, List.setIfInBounds_toArray, List.set_cons_zero, List.set_cons_succ]
          refine wpAnyH_take (i := 6) (oi := ⟨_, _, _, _, _, _⟩) (v := ?v33) rfl (by kernel_rfl) (by kernel_rfl) (by kernel_rfl) (fun _ _ _ h => h) ?y33 hS ?_
          case y33 => first | (refine Or.inr ⟨by rfl, ?_⟩; with_reducible rfl) | (refine Or.inl ⟨by rfl, ?_⟩; intro wS hSw; obtain ⟨c0S, c1S, c2S, c3S, c4S, -, -, c7S, -, -, -⟩ := hSw.1.sc.cells; obtain ⟨-, -, d2S, -, -, -⟩ := three_box hSw.2.1; go_simp; try with_reducible rfl)
          simp only [Act.put, List.setIfInBounds_toArray, List.set_cons_zero, List.set_cons_succ]
          refine wpAnyH_take (i := 7) (oi := ⟨_, _, _, _, _, _⟩) (v := ?v34) rfl (by kernel_rfl) (by kernel_rfl) (by kernel_rfl) (fun _ _ _ h => h) ?y34 hS ?_
          case y34 => first | (refine Or.inr ⟨by rfl, ?_⟩; with_reducible rfl) | (refine Or.inl ⟨by rfl, ?_⟩; intro wS hSw; obtain ⟨c0S, c1S, c2S, c3S, c4S, -, -, c7S, -, -, -⟩ := hSw.1.sc.cells; obtain ⟨-, -, d2S, -, -, -⟩ := three_box hSw.2.1; go_simp; try with_reducible rfl)
          simp only [Act.put, List.setIfInBounds_toArray, List.set_cons_zero, List.set_cons_succ]
          refine wpAnyH_take (i := 8) (oi := ⟨_, _, _, _, _, _⟩) (v := ?v35) rfl (by kernel_rfl) (by kernel_rfl) (by kernel_rfl) (fun _ _ _ h => h) ?y35 hS ?_
          case y35 => first | (refine Or.inr ⟨by rfl, ?_⟩; with_reducible rfl) | (refine Or.inl ⟨by rfl, ?_⟩; intro wS hSw; obtain ⟨c0S, c1S, c2S, c3S, c4S, -, -, c7S, -, -, -⟩ := hSw.1.sc.cells; obtain ⟨-, -, d2S, -, -, -⟩ := three_box hSw.2.1; go_simp; try with_reducible rfl)
          simp only [Act.put, List.setIfInBounds_toArray, List.set_cons_zero, List.set_cons_succ]
          refine wpAnyH_take (i := 9) (oi := ⟨_, _, _, _, _, _⟩) (v := ?v36) rfl (by kernel_rfl) (by kernel_rfl) (by kernel_rfl) (fun _ _ _ h => h) ?y36 hS ?_
          case y36 => first | (refine Or.inr ⟨by rfl, ?_⟩; with_reducible rfl) | (refine Or.inl ⟨by rfl, ?_⟩; intro wS hSw; obtain ⟨c0S, c1S, c2S, c3S, c4S, -, -, c7S, -, -, -⟩ := hSw.1.sc.cells; obtain ⟨-, -, d2S, -, -, -⟩ := three_box hSw.2.1; go_simp; try with_reducible rfl)
          simp only [Act.put, List.setIfInBounds_toArray, List.set_cons_zero, List.set_cons_succ]
          refine wpAnyH_take (i := 10) (oi := ⟨_, _, _, _, _, _⟩) (v := ?v37) rfl (by kernel_rfl) (by kernel_rfl) (by kernel_rfl) (fun _ _ _ h => h) ?y37 hS ?_
          case y37 => first | (refine Or.inr ⟨by rfl, ?_⟩; with_reducible rfl) | (refine Or.inl ⟨by rfl, ?_⟩; intro wS hSw; obtain ⟨c0S, c1S, c2S, c3S, c4S, -, -, c7S, -, -, -⟩ := hSw.1.sc.cells; obtain ⟨-, -, d2S, -, -, -⟩ := three_box hSw.2.1; go_simp; try with_reducible rfl)
          simp only [Act.put, List.setIfInBounds_toArray, List.set_cons_zero, List.set_cons_succ]
          refine wpAnyH_take (i := 11) (oi := ⟨_, _, _, _, _, _⟩) (v := ?v38) rfl (by kernel_rfl) (by kernel_rfl) (by kernel_rfl) (fun _ _ _ h => h) ?y38 hS ?_
          case y38 => first | (refine Or.inr ⟨by rfl, ?_⟩; with_reducible rfl) | (refine Or.inl ⟨by rfl, ?_⟩; intro wS hSw; obtain ⟨c0S, c1S, c2S, c3S, c4S, -, -, c7S, -, -, -⟩ := hSw.1.sc.cells; obtain ⟨-, -, d2S, -, -, -⟩ := three_box hSw.2.1; go_simp; try with_reducible rfl)
          simp only [Act.put, List.setIfInBounds_toArray, List.set_cons_zero, List.set_cons_succ]
          refine wpAnyH_take (i := 12) (oi := ⟨_, _, _, _, _, _⟩) (v := ?v39) rfl (by kernel_rfl) (by kernel_rfl) (by kernel_rfl) (fun _ _ _ h => h) ?y39 hS ?_
          case y39 => first | (refine Or.inr ⟨by rfl, ?_⟩; with_reducible rfl) | (refine Or.inl ⟨by rfl, ?_⟩; intro wS hSw; obtain ⟨c0S, c1S, c2S, c3S, c4S, -, -, c7S, -, -, -⟩ := hSw.1.sc.cells; obtain ⟨-, -, d2S, -, -, -⟩ := three_box hSw.2.1; go_simp; try with_reducible rfl)
          simp only [Act.put, List.setIfInBounds_toArray, List.set_cons_zero, List.set_cons_succ]
          refine wpAnyH_take (i := 13) (oi := ⟨_, _, _, _, _, _⟩) (v := ?v40) rfl (by kernel_rfl) (by kernel_rfl) (by kernel_rfl) (fun _ _ _ h => h) ?y40 hS ?_
          case y40 => first | (refine Or.inr ⟨by rfl, ?_⟩; with_reducible rfl) | (refine Or.inl ⟨by rfl, ?_⟩; intro wS hSw; obtain ⟨c0S, c1S, c2S, c3S, c4S, -, -, c7S, -, -, -⟩ := hSw.1.sc.cells; obtain ⟨-, -, d2S, -, -, -⟩ := three_box hSw.2.1; go_simp; try with_reducible rfl)
          simp only [Act.put, List.setIfInBounds_toArray, List.set_cons_zero, List.set_cons_succ]
          refine wpAnyH_take (i := 14) (oi := ⟨_, _, _, _, _, _⟩) (v := ?v41) rfl (by kernel_rfl) (by kernel_rfl) (by kernel_rfl) (fun _ _ _ h => h) ?y41 hS ?_
          case y41 => first | (refine Or.inr ⟨by rfl, ?_⟩; with_reducible rfl) | (refine Or.inl ⟨by rfl, ?_⟩; intro wS hSw; obtain ⟨c0S, c1S, c2S, c3S, c4S, -, -, c7S, -, -, -⟩ := hSw.1.sc.cells; obtain ⟨-, -, d2S, -, -, -⟩ := three_box hSw.2.1; go_simp; try with_reducible rfl)
          simp only [Act.put, List.setIfInBounds_toArray, List.set_cons_zero, List.set_cons_succ]
          refine wpAnyH_take (i := 15) (oi := ⟨_, _, _, _, _, _⟩) (v := ?v42) rfl (by kernel_rfl) (by kernel_rfl) (by kernel_rfl) (fun _ _ _ h => h) ?y42 hS ?_
          case y42 => first | (refine Or.inr ⟨by rfl, ?_⟩; with_reducible rfl) | (refine Or.inl ⟨by rfl, ?_⟩; intro wS hSw; obtain ⟨c0S, c1S, c2S, c3S, c4S, -, -, c7S, -, -, -⟩ := hSw.1.sc.cells; obtain ⟨-, -, d2S, -, -, -⟩ := three_box hSw.2.1; go_simp; try with_reducible rfl)
          simp only [Act.put, List.setIfInBounds_toArray, List.set_cons_zero, List.set_cons_succ]
          refine wpAnyH_take (i := 16) (oi := ⟨_, _, _, _, _, _⟩) (v := ?v43) rfl (by kernel_rfl) (by kernel_rfl) (by kernel_rfl) (fun _ _ _ h => h) ?y43 hS ?_
          case y43 => first | (refine Or.inr ⟨by rfl, ?_⟩; with_reducible rfl) | (refine Or.inl ⟨by rfl, ?_⟩; intro wS hSw; obtain ⟨c0S, c1S, c2S, c3S, c4S, -, -, c7S, -, -, -⟩ := hSw.1.sc.cells; obtain ⟨-, -, d2S, -, -, -⟩ := three_box hSw.2.1; go_simp; try with_reducible rfl)
          simp only [Act.put, List.setIfInBounds_toArray, List.set_cons_zero, List.set_cons_succ]
          refine wpAnyH_take (i := 17) (oi := ⟨_, _, _, _, _, _⟩) (v := ?v44) rfl (by kernel_rfl) (by kernel_rfl) (by kernel_rfl) (fun _ _ _ h => h) ?y44 hS ?_
          case y44 => first | (refine Or.inr ⟨by rfl, ?_⟩; with_reducible rfl) | (refine Or.inl ⟨by rfl, ?_⟩; intro wS hSw; obtain ⟨c0S, c1S, c2S, c3S, c4S, -, -, c7S, -, -, -⟩ := hSw.1.sc.cells; obtain ⟨-, -, d2S, -, -, -⟩ := three_box hSw.2.1; go_simp; try with_reducible rfl)
          simp only [Act.put, List.setIfInBounds_toArray, List.set_cons_zero, List.set_cons_succ]
          refine wpAnyH_take (i := 18) (oi := ⟨_, _, _, _, _, _⟩) (v := ?v45) rfl (by kernel_rfl) (by kernel_rfl) (by kernel_rfl) (fun _ _ _ h => h) ?y45 hS ?_
          case y45 => first | (refine Or.inr ⟨by rfl, ?_⟩; with_reducible rfl) | (refine Or.inl ⟨by rfl, ?_⟩; intro wS hSw; obtain ⟨c0S, c1S, c2S, c3S, c4S, -, -, c7S, -, -, -⟩ := hSw.1.sc.cells; obtain ⟨-, -, d2S, -, -, -⟩ := three_box hSw.2.1; go_simp; try with_reducible rfl)
          simp only [Act.put, List.setIfInBounds_toArray, List.set_cons_zero, List.set_cons_succ]
          refine wpAnyH_take (i := 19) (oi := ⟨_, _, _, _, _, _⟩) (v := ?v46) rfl (by kernel_rfl) (by kernel_rfl) (by kernel_rfl) (fun _ _ _ h => h) ?y46 hS ?_
          case y46 => first | (refine Or.inr ⟨by rfl, ?_⟩; with_reducible rfl) | (refine Or.inl ⟨by rfl, ?_⟩; intro wS hSw; obtain ⟨c0S, c1S, c2S, c3S, c4S, -, -, c7S, -, -, -⟩ := hSw.1.sc.cells; obtain ⟨-, -, d2S, -, -, -⟩ := three_box hSw.2.1; go_simp; try with_reducible rfl)
          simp only [Act.put, List.setIfInBounds_toArray, List.set_cons_zero, List.set_cons_succ]
          refine wpAnyH_take (i := 20) (oi := ⟨_, _, _, _, _, _⟩) (v := ?v47) rfl (by kernel_rfl) (by kernel_rfl) (by kernel_rfl) (fun _ _ _ h => h) ?y47 hS ?_
          case y47 => first | (refine Or.inr ⟨by rfl, ?_⟩; with_reducible rfl) | (refine Or.inl ⟨by rfl, ?_⟩; intro wS hSw; obtain ⟨c0S, c1S, c2S, c3S, c4S, -, -, c7S, -, -, -⟩ := hSw.1.sc.cells; obtain ⟨-, -, d2S, -, -, -⟩ := three_box hSw.2.1; go_simp; try with_reducible rfl)
          simp only [Act.put, List.setIfInBounds_toArray, List.set_cons_zero, List.set_cons_succ]
          refine wpAnyH_take (i := 21) (oi := ⟨_, _, _, _, _, _⟩) (v := ?v48) rfl (by kernel_rfl) (by kernel_rfl) (by kernel_rfl) (fun _ _ _ h => h) ?y48 hS ?_
          case y48 => first | (refine Or.inr ⟨by rfl, ?_⟩; with_reducible rfl) | (refine Or.inl ⟨by rfl, ?_⟩; intro wS hSw; obtain ⟨c0S, c1S, c2S, c3S, c4S, -, -, c7S, -, -, -⟩ := hSw.1.sc.cells; obtain ⟨-, -, d2S, -, -, -⟩ := three_box hSw.2.1; go_simp; try with_reducible rfl)
          simp only [Act.put, List.setIfInBounds_toArray, List.set_cons_zero, List.set_cons_succ]
          refine wpAnyH_take (i := 22) (oi := ⟨_, _, _, _, _, _⟩) (v := ?v49) rfl (by kernel_rfl) (by kernel_rfl) (by kernel_rfl) (fun _ _ _ h => h) ?y49 hS ?_
          case y49 => first | (refine Or.inr ⟨by rfl, ?_⟩; with_reducible rfl) | (refine Or.inl ⟨by rfl, ?_⟩; intro wS hSw; obtain ⟨c0S, c1S, c2S, c3S, c4S, -, -, c7S, -, -, -⟩ := hSw.1.sc.cells; obtain ⟨-, -, d2S, -, -, -⟩ := three_box hSw.2.1; go_simp; try with_reducible rfl)
          simp only [Act.put, List.setIfInBounds_toArray, List.set_cons_zero, List.set_cons_succ]
          refine wpAnyH_take (i := 23) (oi := ⟨_, _, _, _, _, _⟩) (v := ?v50) rfl (by kernel_rfl) (by kernel_rfl) (by kernel_rfl) (fun _ _ _ h => h) ?y50 hS ?_
          case y50 => first | (refine Or.inr ⟨by rfl, ?_⟩; with_reducible rfl) | (refine Or.inl ⟨by rfl, ?_⟩; intro wS hSw; obtain ⟨c0S, c1S, c2S, c3S, c4S, -, -, c7S, -, -, -⟩ := hSw.1.sc.cells; obtain ⟨-, -, d2S, -, -, -⟩ := three_box hSw.2.1; go_simp; try with_reducible rfl)
          simp only [Act.put, List.setIfInBounds_toArray, List.set_cons_zero, List.set_cons_succ]
          refine wpAnyH_take (i := 24) (oi := ⟨_, _, _, _, _, _⟩) (v := ?v51) rfl (by kernel_rfl) (by kernel_rfl) (by kernel_rfl) (fun _ _ _ h => h) ?y51 hS ?_
          case y51 => first | (refine Or.inr ⟨by rfl, ?_⟩; with_reducible rfl) | (refine Or.inl ⟨by rfl, ?_⟩; intro wS hSw; obtain ⟨c0S, c1S, c2S, c3S, c4S, -, -, c7S, -, -, -⟩ := hSw.1.sc.cells; obtain ⟨-, -, d2S, -, -, -⟩ := three_box hSw.2.1; go_simp; try with_reducible rfl)
          simp only [Act.put, List.setIfInBounds_toArray, List.set_cons_zero, List.set_cons_succ]
          refine wpAnyH_take (i := 25) (oi := ⟨_, _, _, _, _, _⟩) (v := ?v52) rfl (by kernel_rfl) (by kernel_rfl) (by kernel_rfl) (fun _ _ _ h => h) ?y52 hS ?_
          case y52 => first | (refine Or.inr ⟨by rfl, ?_⟩; with_reducible rfl) | (refine Or.inl ⟨by rfl, ?_⟩; intro wS hSw; obtain ⟨c0S, c1S, c2S, c3S, c4S, -, -, c7S, -, -, -⟩ := hSw.1.sc.cells; obtain ⟨-, -, d2S, -, -, -⟩ := three_box hSw.2.1; go_simp; try with_reducible rfl)
          simp only [Act.put, List.setIfInBounds_toArray, List.set_cons_zero, List.set_cons_succ]
          refine wpAnyH_take (i := 26) (oi := ⟨_, _, _, _, _, _⟩) (v := ?v53) rfl (by kernel_rfl) (by kernel_rfl) (by kernel_rfl) (fun _ _ _ h => h) ?y53 hS ?_
          case y53 => first | (refine Or.inr ⟨by rfl, ?_⟩; with_reducible rfl) | (refine Or.inl ⟨by rfl, ?_⟩; intro wS hSw; obtain ⟨c0S, c1S, c2S, c3S, c4S, -, -, c7S, -, -, -⟩ := hSw.1.sc.cells; obtain ⟨-, -, d2S, -, -, -⟩ := three_box hSw.2.1; go_simp; try with_reducible rfl)
          simp only [Act.put, List.setIfInBounds_toArray, List.set_cons_zero, List.set_cons_succ]
          refine wpAnyH_take (i := 27) (oi := ⟨_, _, _, _, _, _⟩) (v := ?v54) rfl (by kernel_rfl) (by kernel_rfl) (by kernel_rfl) (fun _ _ _ h => h) ?y54 hS ?_
          case y54 => first | (refine Or.inr ⟨by rfl, ?_⟩; with_reducible rfl) | (refine Or.inl ⟨by rfl, ?_⟩; intro wS hSw; obtain ⟨c0S, c1S, c2S, c3S, c4S, -, -, c7S, -, -, -⟩ := hSw.1.sc.cells; obtain ⟨-, -, d2S, -, -, -⟩ := three_box hSw.2.1; go_simp; try with_reducible rfl)
          simp only [Act.put, List.setIfInBounds_toArray, List.set_cons_zero, List.set_cons_succ]
          refine wpAnyH_take (i := 28) (oi := ⟨_, _, _, _, _, _⟩) (v := ?v55) rfl (by kernel_rfl) (by kernel_rfl) (by kernel_rfl) (fun _ _ _ h => h) ?y55 hS ?_
          case y55 => first | (refine Or.inr ⟨by rfl, ?_⟩; with_reducible rfl) | (refine Or.inl ⟨by rfl, ?_⟩; intro wS hSw; obtain ⟨c0S, c1S, c2S, c3S, c4S, -, -, c7S, -, -, -⟩ := hSw.1.sc.cells; obtain ⟨-, -, d2S, -, -, -⟩ := three_box hSw.2.1; go_simp; try with_reducible rfl)
          simp only [Act.put, List.setIfInBounds_toArray, List.set_cons_zero, List.set_cons_succ]
          refine wpAnyH_take (i := 29) (oi := ⟨_, _, _, _, _, _⟩) (v := ?v56) rfl (by kernel_rfl) (by kernel_rfl) (by kernel_rfl) (fun _ _ _ h => h) ?y56 hS ?_
          case y56 => first | (refine Or.inr ⟨by rfl, ?_⟩; with_reducible rfl) | (refine Or.inl ⟨by rfl, ?_⟩; intro wS hSw; obtain ⟨c0S, c1S, c2S, c3S, c4S, -, -, c7S, -, -, -⟩ := hSw.1.sc.cells; obtain ⟨-, -, d2S, -, -, -⟩ := three_box hSw.2.1; go_simp; try with_reducible rfl)
          simp only [Act.put, List.setIfInBounds_toArray, List.set_cons_zero, List.set_cons_succ]
          refine wpAnyH_take (i := 30) (oi := ⟨_, _, _, _, _, _⟩) (v := ?v57) rfl (by kernel_rfl) (by kernel_rfl) (by kernel_rfl) (fun _ _ _ h => h) ?y57 hS ?_
          case y57 => first | (refine Or.inr ⟨by rfl, ?_⟩; with_reducible rfl) | (refine Or.inl ⟨by rfl, ?_⟩; intro wS hSw; obtain ⟨c0S, c1S, c2S, c3S, c4S, -, -, c7S, -, -, -⟩ := hSw.1.sc.cells; obtain ⟨-, -, d2S, -, -, -⟩ := three_box hSw.2.1; go_simp; try with_reducible rfl)
          simp only [Act.put, List.setIfInBounds_toArray, List.set_cons_zero, List.set_cons_succ]
          refine wpAnyH_take (i := 31) (oi := ⟨_, _, _, _, _, _⟩) (v := ?v58) rfl (by kernel_rfl) (by kernel_rfl) (by kernel_rfl) (fun _ _ _ h => h) ?y58 hS ?_
          case y58 => first | (refine Or.inr ⟨by rfl, ?_⟩; with_reducible rfl) | (refine Or.inl ⟨by rfl, ?_⟩; intro wS hSw; obtain ⟨c0S, c1S, c2S, c3S, c4S, -, -, c7S, -, -, -⟩ := hSw.1.sc.cells; obtain ⟨-, -, d2S, -, -, -⟩ := three_box hSw.2.1; go_simp; try with_reducible rfl)
          simp only [Act.put, List.setIfInBounds_toArray, List.set_cons_zero, List.set_cons_succ]
          refine wpAnyH_take (i := 32) (oi := ⟨_, _, _, _, _, _⟩) (v := ?v59) rfl (by kernel_rfl) (by kernel_rfl) (by kernel_rfl) (fun _ _ _ h => h) ?y59 hS ?_
          case y59 => first | (refine Or.inr ⟨by rfl, ?_⟩; with_reducible rfl) | (refine Or.inl ⟨by rfl, ?_⟩; intro wS hSw; obtain ⟨c0S, c1S, c2S, c3S, c4S, -, -, c7S, -, -, -⟩ := hSw.1.sc.cells; obtain ⟨-, -, d2S, -, -, -⟩ := three_box hSw.2.1; go_simp; try with_reducible rfl)
          simp only [Act.put, List.setIfInBounds_toArray, List.set_cons_zero, List.set_cons_succ]
          refine wpAnyH_take (i := 33) (oi := ⟨_, _, _, _, _, _⟩) (v := ?v60) rfl (by kernel_rfl) (by kernel_rfl) (by kernel_rfl) (fun _ _ _ h => h) ?y60 hS ?_
          case y60 => first | (refine Or.inr ⟨by rfl, ?_⟩; with_reducible rfl) | (refine Or.inl ⟨by rfl, ?_⟩; intro wS hSw; obtain ⟨c0S, c1S, c2S, c3S, c4S, -, -, c7S, -, -, -⟩ := hSw.1.sc.cells; obtain ⟨-, -, d2S, -, -, -⟩ := three_box hSw.2.1; go_simp; try with_reducible rfl)
          simp only [Act.put, List.setIfInBounds_toArray, List.set_cons_zero, List.set_cons_succ]
          refine wpAnyH_take (i := 34) (oi := ⟨_, _, _, _, _, _⟩) (v := ?v61) rfl (by kernel_rfl) (by kernel_rfl) (by kernel_rfl) (fun _ _ _ h => h) ?y61 hS ?_
          case y61 => first | (refine Or.inr ⟨by rfl, ?_⟩; with_reducible rfl) | (refine Or.inl ⟨by rfl, ?_⟩; intro wS hSw; obtain ⟨c0S, c1S, c2S, c3S, c4S, -, -, c7S, -, -, -⟩ := hSw.1.sc.cells; obtain ⟨-, -, d2S, -, -, -⟩ := three_box hSw.2.1; go_simp; try with_reducible rfl)
          simp only [Act.put, List.setIfInBounds_toArray, List.set_cons_zero, List.set_cons_succ]
          refine wpAnyH_take (i := 35) (oi := ⟨_, _, _, _, _, _⟩) (v := ?v62) rfl (by kernel_rfl) (by kernel_rfl) (by kernel_rfl) (fun _ _ _ h => h) ?y62 hS ?_
          case y62 => first | (refine Or.inr ⟨by rfl, ?_⟩; with_reducible rfl) | (refine Or.inl ⟨by rfl, ?_⟩; intro wS hSw; obtain ⟨c0S, c1S, c2S, c3S, c4S, -, -, c7S, -, -, -⟩ := hSw.1.sc.cells; obtain ⟨-, -, d2S, -, -, -⟩ := three_box hSw.2.1; go_simp; try with_reducible rfl)
          simp only [Act.put, List.setIfInBounds_toArray, List.set_cons_zero, List.set_cons_succ]
          refine wpAnyH_take (i := 36) (oi := ⟨_, _, _, _, _, _⟩) (v := ?v63) rfl (by kernel_rfl) (by kernel_rfl) (by kernel_rfl) (fun _ _ _ h => h) ?y63 hS ?_
          case y63 => first | (refine Or.inr ⟨by rfl, ?_⟩; with_reducible rfl) | (refine Or.inl ⟨by rfl, ?_⟩; intro wS hSw; obtain ⟨c0S, c1S, c2S, c3S, c4S, -, -, c7S, -, -, -⟩ := hSw.1.sc.cells; obtain ⟨-, -, d2S, -, -, -⟩ := three_box hSw.2.1; go_simp; try with_reducible rfl)
          simp only [Act.put, List.setIfInBounds_toArray, List.set_cons_zero, List.set_cons_succ]
          refine wpAnyH_take (i := 37) (oi := ⟨_, _, _, _, _, _⟩) (v := ?v64) rfl (by kernel_rfl) (by kernel_rfl) (by kernel_rfl) (fun _ _ _ h => h) ?y64 hS ?_
          case y64 => first | (refine Or.inr ⟨by rfl, ?_⟩; with_reducible rfl) | (refine Or.inl ⟨by rfl, ?_⟩; intro wS hSw; obtain ⟨c0S, c1S, c2S, c3S, c4S, -, -, c7S, -, -, -⟩ := hSw.1.sc.cells; obtain ⟨-, -, d2S, -, -, -⟩ := three_box hSw.2.1; go_simp; try with_reducible rfl)
          simp only [Act.put, List.setIfInBounds_toArray, List.set_cons_zero, List.set_cons_succ]
          refine wpAnyH_take (i := 38) (oi := ⟨_, _, _, _, _, _⟩) (v := ?v65) rfl (by kernel_rfl) (by kernel_rfl) (by kernel_rfl) (fun _ _ _ h => h) ?y65 hS ?_
          case y65 => first | (refine Or.inr ⟨by rfl, ?_⟩; with_reducible rfl) | (refine Or.inl ⟨by rfl, ?_⟩; intro wS hSw; obtain ⟨c0S, c1S, c2S, c3S, c4S, -, -, c7S, -, -, -⟩ := hSw.1.sc.cells; obtain ⟨-, -, d2S, -, -, -⟩ := three_box hSw.2.1; go_simp; try with_reducible rfl)
          simp only [Act.put, List.setIfInBounds_toArray, List.set_cons_zero, List.set_cons_succ]
          refine wpAnyH_take (i := 39) (oi := ⟨_, _, _, _, _, _⟩) (v := ?v66) rfl (by kernel_rfl) (by kernel_rfl) (by kernel_rfl) (fun _ _ _ h => h) ?y66 hS ?_
          case y66 => first | (refine Or.inr ⟨by rfl, ?_⟩; with_reducible rfl) | (refine Or.inl ⟨by rfl, ?_⟩; intro wS hSw; obtain ⟨c0S, c1S, c2S, c3S, c4S, -, -, c7S, -, -, -⟩ := hSw.1.sc.cells; obtain ⟨-, -, d2S, -, -, -⟩ := three_box hSw.2.1; go_simp; try with_reducible rfl)
          simp only [Act.put, List.setIfInBounds_toArray, List.set_cons_zero, List.set_cons_succ]
          refine wpAnyH_take (i := 40) (oi := ⟨_, _, _, _, _, _⟩) (v := ?v67) rfl (by kernel_rfl) (by kernel_rfl) (by kernel_rfl) (fun _ _ _ h => h) ?y67 hS ?_
          case y67 => first | (refine Or.inr ⟨by rfl, ?_⟩; with_reducible rfl) | (refine Or.inl ⟨by rfl, ?_⟩; intro wS hSw; obtain ⟨c0S, c1S, c2S, c3S, c4S, -, -, c7S, -, -, -⟩ := hSw.1.sc.cells; obtain ⟨-, -, d2S, -, -, -⟩ := three_box hSw.2.1; go_simp; try with_reducible rfl)
          simp only [Act.put, List.setIfInBounds_toArray, List.set_cons_zero, List.set_cons_succ]
          refine wpAnyH_take (i := 41) (oi := ⟨_, _, _, _, _, _⟩) (v := ?v68) rfl (by kernel_rfl) (by kernel_rfl) (by kernel_rfl) (fun _ _ _ h => h) ?y68 hS ?_
          case y68 => first | (refine Or.inr ⟨by rfl, ?_⟩; with_reducible rfl) | (refine Or.inl ⟨by rfl, ?_⟩; intro wS hSw; obtain ⟨c0S, c1S, c2S, c3S, c4S, -, -, c7S, -, -, -⟩ := hSw.1.sc.cells; obtain ⟨-, -, d2S, -, -, -⟩ := three_box hSw.2.1; go_simp; try with_reducible rfl)
          simp only [Act.put, List.setIfInBounds_toArray, List.set_cons_zero, List.set_cons_succ]
          refine wpAnyH_take (i := 42) (oi := ⟨_, _, _, _, _, _⟩) (v := ?v69) rfl (by kernel_rfl) (by kernel_rfl) (by kernel_rfl) (fun _ _ _ h => h) ?y69 hS ?_
          case y69 => first | (refine Or.inr ⟨by rfl, ?_⟩; with_reducible rfl) | (refine Or.inl ⟨by rfl, ?_⟩; intro wS hSw; obtain ⟨c0S, c1S, c2S, c3S, c4S, -, -, c7S, -, -, -⟩ := hSw.1.sc.cells; obtain ⟨-, -, d2S, -, -, -⟩ := three_box hSw.2.1; go_simp; try with_reducible rfl)
          simp only [Act.put, List.setIfInBounds_toArray, List.set_cons_zero, List.set_cons_succ]
          refine wpAnyH_take (i := 43) (oi := ⟨_, _, _, _, _, _⟩) (v := ?v70) rfl (by kernel_rfl) (by kernel_rfl) (by kernel_rfl) (fun _ _ _ h => h) ?y70 hS ?_
          case y70 => first | (refine Or.inr ⟨by rfl, ?_⟩; with_reducible rfl) | (refine Or.inl ⟨by rfl, ?_⟩; intro wS hSw; obtain ⟨c0S, c1S, c2S, c3S, c4S, -, -, c7S, -, -, -⟩ := hSw.1.sc.cells; obtain ⟨-, -, d2S, -, -, -⟩ := three_box hSw.2.1; go_simp; try with_reducible rfl)
          simp only [Act.put, List.setIfInBounds_toArray, List.set_cons_zero, List.set_cons_succ]
          refine wpAnyH_take (i := 44) (oi := ⟨_, _, _, _, _, _⟩) (v := ?v71) rfl (by kernel_rfl) (by kernel_rfl) (by kernel_rfl) (fun _ _ _ h => h) ?y71 hS ?_
          case y71 => first | (refine Or.inr ⟨by rfl, ?_⟩; with_reducible rfl) | (refine Or.inl ⟨by rfl, ?_⟩; intro wS hSw; obtain ⟨c0S, c1S, c2S, c3S, c4S, -, -, c7S, -, -, -⟩ := hSw.1.sc.cells; obtain ⟨-, -, d2S, -, -, -⟩ := three_box hSw.2.1; go_simp; try with_reducible rfl)
          simp only [Act.put, List.setIfInBounds_toArray, List.set_cons_zero, List.set_cons_succ]
          refine wpAnyH_take (i := 45) (oi := ⟨_, _, _, _, _, _⟩) (v := ?v72) rfl (by kernel_rfl) (by kernel_rfl) (by kernel_rfl) (fun _ _ _ h => h) ?y72 hS ?_
          case y72 => first | (refine Or.inr ⟨by rfl, ?_⟩; with_reducible rfl) | (refine Or.inl ⟨by rfl, ?_⟩; intro wS hSw; obtain ⟨c0S, c1S, c2S, c3S, c4S, -, -, c7S, -, -, -⟩ := hSw.1.sc.cells; obtain ⟨-, -, d2S, -, -, -⟩ := three_box hSw.2.1; go_simp; try with_reducible rfl)
          simp only [Act.put, List.setIfInBounds_toArray, List.set_cons_zero, List.set_cons_succ]
          refine wpAnyH_take (i := 46) (oi := ⟨_, _, _, _, _, _⟩) (v := ?v73) rfl (by kernel_rfl) (by kernel_rfl) (by kernel_rfl) (fun _ _ _ h => h) ?y73 hS ?_
          case y73 => first | (refine Or.inr ⟨by rfl, ?_⟩; with_reducible rfl) | (refine Or.inl ⟨by rfl, ?_⟩; intro wS hSw; obtain ⟨c0S, c1S, c2S, c3S, c4S, -, -, c7S, -, -, -⟩ := hSw.1.sc.cells; obtain ⟨-, -, d2S, -, -, -⟩ := three_box hSw.2.1; go_simp; try with_reducible rfl)
          simp only [Act.put, List.setIfInBounds_toArray, List.set_cons_zero, List.set_cons_succ]
          refine wpAnyH_take (i := 47) (oi := ⟨_, _, _, _, _, _⟩) (v := ?v74) rfl (by kernel_rfl) (by kernel_rfl) (by kernel_rfl) (fun _ _ _ h => h) ?y74 hS ?_
          case y74 => first | (refine Or.inr ⟨by rfl, ?_⟩; with_reducible rfl) | (refine Or.inl ⟨by rfl, ?_⟩; intro wS hSw; obtain ⟨c0S, c1S, c2S, c3S, c4S, -, -, c7S, -, -, -⟩ := hSw.1.sc.cells; obtain ⟨-, -, d2S, -, -, -⟩ := three_box hSw.2.1; go_simp; try with_reducible rfl)
          simp only [Act.put, List.setIfInBounds_toArray, List.set_cons_zero, List.set_cons_succ]
          refine wpAnyH_take (i := 48) (oi := ⟨_, _, _, _, _, _⟩) (v := ?v75) rfl (by kernel_rfl) (by kernel_rfl) (by kernel_rfl) (fun _ _ _ h => h) ?y75 hS ?_
          case y75 => first | (refine Or.inr ⟨by rfl, ?_⟩; with_reducible rfl) | (refine Or.inl ⟨by rfl, ?_⟩; intro wS hSw; obtain ⟨c0S, c1S, c2S, c3S, c4S, -, -, c7S, -, -, -⟩ := hSw.1.sc.cells; obtain ⟨-, -, d2S, -, -, -⟩ := three_box hSw.2.1; go_simp; try with_reducible rfl)
          simp only [Act.put, List.setIfInBounds_toArray, List.set_cons_zero, List.set_cons_succ]
          refine wpAnyH_take (i := 49) (oi := ⟨_, _, _, _, _, _⟩) (v := ?v76) rfl (by kernel_rfl) (by kernel_rfl) (by kernel_rfl) (fun _ _ _ h => h) ?y76 hS ?_
          case y76 => first | (refine Or.inr ⟨by rfl, ?_⟩; with_reducible rfl) | (refine Or.inl ⟨by rfl, ?_⟩; intro wS hSw; obtain ⟨c0S, c1S, c2S, c3S, c4S, -, -, c7S, -, -, -⟩ := hSw.1.sc.cells; obtain ⟨-, -, d2S, -, -, -⟩ := three_box hSw.2.1; go_simp; try with_reducible rfl)
          simp only [Act.put, List.setIfInBounds_toArray, List.set_cons_zero, List.set_cons_succ]
          have hM2 := M.out
          have hYb := HYb.out
          have hT := HT.out
          obtain ⟨-, -, -, -, -, -, -, c7, -, -, f7⟩ := hM2.sc.cells
          have M2 := Lib.hid hM2
          have HYb2 := Lib.hid hYb
          have HT2 := Lib.hid hT
          clear hM2 hYb hT
          refine wpAnyH_ready (rs := [50]) (by kernel_rfl) (by simp) ?_
          refine AllReadyH.cons (o := ⟨_, _, _, _, _, _⟩) rfl (fun K hK => ?_) AllReadyH.nil
          go_simp
          obtain ⟨q1, q2⟩ := sc_ok M2.out.sc true
          have hM3 : Mid base w _ s m sv (F ++ [(p, f)]) sb p lev (.slice aao z acap) (.slice rao' (rds ++ [((rdOf f lev).1, (rdOf f lev).2.1, (rdOf f lev).2.2.2)]).length rcap') (.slice lao k lcap) (rds ++ [((rdOf f lev).1, (rdOf f lev).2.1, (rdOf f lev).2.2.2)]) gl true l := ⟨M2.out.st.keepT q2 (by decide) (by decide) (by decide), q1, M2.out.an.keep (KeepT.mono q2 (by decide) (fun h => by simp at h)), q2.cells M2.out.res (by decide), KeepT.trans M2.out.kp (KeepT.mono q2 (by decide) (fun h => h))⟩
          have hY3 := q2.cells HYb2.out (by decide)
          have hT3 := HT2.out.keepT q2 (by decide)
          have hM3 := hM3.later ((Below.refl _ _).drew)
          have hT3 := hT3.later ((Below.refl _ _).drew)
          refine hK.out _ _ ⟨hM3, hY3, hT3⟩ (fun _ => ?_)
          clear hK K
          try simp only [Act.put, List.setIfInBounds_toArray, List.set_cons_zero, List.set_cons_succ]
          refine wpAnyH_done (by kernel_rfl) ?_ _
          go_wp2_with fail
          go_meet
          exact hM3
        · obtain ⟨n1, hn1⟩ : ∃ n1, n = n1 + 1 ∨ n = 0 := ⟨n - 1, by omega⟩
          by_cases h0 : n = 0
          · have hz : ((n : Int) == 0) = true := by simp; omega
            have hz2 : decide (n = 0) = true := by simpa using h0
            clear h0 hn1 hr1 hr2 hr3
            refine wp_region_held_drew (S := fun wq => Mid base w wq s m sv (F ++ [(p, f)]) sb p lev (.slice aao z acap) (.slice rao' (rds ++ [((rdOf f lev).1, (rdOf f lev).2.1, (rdOf f lev).2.2.2)]).length rcap') (.slice lao k lcap) (rds ++ [((rdOf f lev).1, (rdOf f lev).2.1, (rdOf f lev).2.2.2)]) gl true l ∧ wq.heap[Y]? = some (.cells #[.int .i64 (rdOf f lev).1, .int .i64 (rdOf f lev).2.1, .slice tao (rdOf f lev).2.2.1.length tcap] 74 (0, 0)) ∧ TwIn wq (.slice tao (rdOf f lev).2.2.1.length tcap) (rdOf f lev).2.2.1) (by kernel_rfl) ⟨M.out.later HDr.out, (HDr.out.block _ (lt_of_block HYb.out)).trans HYb.out, HT.out.later HDr.out⟩ (fun hS => ?_)
            refine wpAnyH_take (i := 0) (oi := ⟨_, _, _, _, _, _⟩) (v := ?v77) rfl (by kernel_rfl) (by kernel_rfl) (by kernel_rfl) (fun _ _ _ h => h) ?y77 hS ?_
            case y77 => first | (refine Or.inr ⟨by rfl, ?_⟩; with_reducible rfl) | (refine Or.inl ⟨by rfl, ?_⟩; intro wS hSw; obtain ⟨c0S, c1S, c2S, c3S, c4S, -, -, c7S, -, -, -⟩ := hSw.1.sc.cells; obtain ⟨-, -, d2S, -, -, -⟩ := three_box hSw.2.1; go_simp; try with_reducible rfl)
            simp only [Act.put, List.setIfInBounds_toArray, List.set_cons_zero, List.set_cons_succ]
            refine wpAnyH_take (i := 1) (oi := ⟨_, _, _, _, _, _⟩) (v := ?v78) rfl (by kernel_rfl) (by kernel_rfl) (by kernel_rfl) (fun _ _ _ h => h) ?y78 hS ?_
            case y78 => first | (refine Or.inr ⟨by rfl, ?_⟩; with_reducible rfl) | (refine Or.inl ⟨by rfl, ?_⟩; intro wS hSw; obtain ⟨c0S, c1S, c2S, c3S, c4S, -, -, c7S, -, -, -⟩ := hSw.1.sc.cells; obtain ⟨-, -, d2S, -, -, -⟩ := three_box hSw.2.1; go_simp; try with_reducible rfl)
            simp only [Act.put, List.setIfInBounds_toArray, List.set_cons_zero, List.set_cons_succ]
            refine wpAnyH_take (i := 2) (oi := ⟨_, _, _, _, _, _⟩) (v := ?v79) rfl (by kernel_rfl) (by kernel_rfl) (by kernel_rfl) (fun _ _ _ h => h) ?y79 hS ?_
            case y79 => first | (refine Or.inr ⟨by rfl, ?_⟩; with_reducible rfl) | (refine Or.inl ⟨by rfl, ?_⟩; intro wS hSw; obtain ⟨c0S, c1S, c2S, c3S, c4S, -, -, c7S, -, -, -⟩ := hSw.1.sc.cells; obtain ⟨-, -, d2S, -, -, -⟩ := three_box hSw.2.1; go_simp; try with_reducible rfl)
            simp only [Act.put, List.setIfInBounds_toArray, List.set_cons_zero, List.set_cons_succ]
            refine wpAnyH_take (i := 3) (oi := ⟨_, _, _, _, _, _⟩) (v := ?v80) rfl (by kernel_rfl) (by kernel_rfl) (by kernel_rfl) (fun _ _ _ h => h) ?y80 hS ?_
            case y80 => first | (refine Or.inr ⟨by rfl, ?_⟩; with_reducible rfl) | (refine Or.inl ⟨by rfl, ?_⟩; intro wS hSw; obtain ⟨c0S, c1S, c2S, c3S, c4S, -, -, c7S, -, -, -⟩ := hSw.1.sc.cells; obtain ⟨-, -, d2S, -, -, -⟩ := three_box hSw.2.1; go_simp; try with_reducible rfl)
            simp only [Act.put, List.setIfInBounds_toArray, List.set_cons_zero, List.set_cons_succ]
            refine wpAnyH_take (i := 4) (oi := ⟨_, _, _, _, _, _⟩) (v := ?v81) rfl (by kernel_rfl) (by kernel_rfl) (by kernel_rfl) (fun _ _ _ h => h) ?y81 hS ?_
            case y81 => first | (refine Or.inr ⟨by rfl, ?_⟩; with_reducible rfl) | (refine Or.inl ⟨by rfl, ?_⟩; intro wS hSw; obtain ⟨c0S, c1S, c2S, c3S, c4S, -, -, c7S, -, -, -⟩ := hSw.1.sc.cells; obtain ⟨-, -, d2S, -, -, -⟩ := three_box hSw.2.1; go_simp; try with_reducible rfl)
            simp only [Act.put, List.setIfInBounds_toArray, List.set_cons_zero, List.set_cons_succ]
            refine wpAnyH_take (i := 5) (oi := ⟨_, _, _, _, _, _⟩) (v := ?v82) rfl (by kernel_rfl) (by kernel_rfl) (by kernel_rfl) (fun _ _ _ h => h) ?y82 hS ?_
            case y82 => first | (refine Or.inr ⟨by rfl, ?_⟩; with_reducible rfl) | (refine Or.inl ⟨by rfl, ?_⟩; intro wS hSw; obtain ⟨c0S, c1S, c2S, c3S, c4S, -, -, c7S, -, -, -⟩ := hSw.1.sc.cells; obtain ⟨-, -, d2S, -, -, -⟩ := three_box hSw.2.1; go_simp; try with_reducible rfl)
            simp only [Act.put, List.setIfInBounds_toArray, List.set_cons_zero, List.set_cons_succ]
            refine wpAnyH_take (i := 6) (oi := ⟨_, _, _, _, _, _⟩) (v := ?v83) rfl (by kernel_rfl) (by kernel_rfl) (by kernel_rfl) (fun _ _ _ h => h) ?y83 hS ?_
            case y83 => first | (refine Or.inr ⟨by rfl, ?_⟩; with_reducible rfl) | (refine Or.inl ⟨by rfl, ?_⟩; intro wS hSw; obtain ⟨c0S, c1S, c2S, c3S, c4S, -, -, c7S, -, -, -⟩ := hSw.1.sc.cells; obtain ⟨-, -, d2S, -, -, -⟩ := three_box hSw.2.1; go_simp; try with_reducible rfl)
            simp only [Act.put, List.setIfInBounds_toArray, List.set_cons_zero, List.set_cons_succ]
            refine wpAnyH_take (i := 7) (oi := ⟨_, _, _, _, _, _⟩) (v := ?v84) rfl (by kernel_rfl) (by kernel_rfl) (by kernel_rfl) (fun _ _ _ h => h) ?y84 hS ?_
            case y84 => first | (refine Or.inr ⟨by rfl, ?_⟩; with_reducible rfl) | (refine Or.inl ⟨by rfl, ?_⟩; intro wS hSw; obtain ⟨c0S, c1S, c2S, c3S, c4S, -, -, c7S, -, -, -⟩ := hSw.1.sc.cells; obtain ⟨-, -, d2S, -, -, -⟩ := three_box hSw.2.1; go_simp; try with_reducible rfl)
            simp only [Act.put, List.setIfInBounds_toArray, List.set_cons_zero, List.set_cons_succ]
            refine wpAnyH_take (i := 8) (oi := ⟨_, _, _, _, _, _⟩) (v := ?v85) rfl (by kernel_rfl) (by kernel_rfl) (by kernel_rfl) (fun _ _ _ h => h) ?y85 hS ?_
            case y85 => first | (refine Or.inr ⟨by rfl, ?_⟩; with_reducible rfl) | (refine Or.inl ⟨by rfl, ?_⟩; intro wS hSw; obtain ⟨c0S, c1S, c2S, c3S, c4S, -, -, c7S, -, -, -⟩ := hSw.1.sc.cells; obtain ⟨-, -, d2S, -, -, -⟩ := three_box hSw.2.1; go_simp; try with_reducible rfl)
            simp only [Act.put, List.setIfInBounds_toArray, List.set_cons_zero, List.set_cons_succ]
            refine wpAnyH_take (i := 9) (oi := ⟨_, _, _, _, _, _⟩) (v := ?v86) rfl (by kernel_rfl) (by kernel_rfl) (by kernel_rfl) (fun _ _ _ h => h) ?y86 hS ?_
            case y86 => first | (refine Or.inr ⟨by rfl, ?_⟩; with_reducible rfl) | (refine Or.inl ⟨by rfl, ?_⟩; intro wS hSw; obtain ⟨c0S, c1S, c2S, c3S, c4S, -, -, c7S, -, -, -⟩ := hSw.1.sc.cells; obtain ⟨-, -, d2S, -, -, -⟩ := three_box hSw.2.1; go_simp; try with_reducible rfl)
            simp only [Act.put, List.setIfInBounds_toArray, List.set_cons_zero, List.set_cons_succ]
            refine wpAnyH_take (i := 10) (oi := ⟨_, _, _, _, _, _⟩) (v := ?v87) rfl (by kernel_rfl) (by kernel_rfl) (by kernel_rfl) (fun _ _ _ h => h) ?y87 hS ?_
            case y87 => first | (refine Or.inr ⟨by rfl, ?_⟩; with_reducible rfl) | (refine Or.inl ⟨by rfl, ?_⟩; intro wS hSw; obtain ⟨c0S, c1S, c2S, c3S, c4S, -, -, c7S, -, -, -⟩ := hSw.1.sc.cells; obtain ⟨-, -, d2S, -, -, -⟩ := three_box hSw.2.1; go_simp; try with_reducible rfl)
            simp only [Act.put, List.setIfInBounds_toArray, List.set_cons_zero, List.set_cons_succ]
            refine wpAnyH_take (i := 11) (oi := ⟨_, _, _, _, _, _⟩) (v := ?v88) rfl (by kernel_rfl) (by kernel_rfl) (by kernel_rfl) (fun _ _ _ h => h) ?y88 hS ?_
            case y88 => first | (refine Or.inr ⟨by rfl, ?_⟩; with_reducible rfl) | (refine Or.inl ⟨by rfl, ?_⟩; intro wS hSw; obtain ⟨c0S, c1S, c2S, c3S, c4S, -, -, c7S, -, -, -⟩ := hSw.1.sc.cells; obtain ⟨-, -, d2S, -, -, -⟩ := three_box hSw.2.1; go_simp; try with_reducible rfl)
            simp only [Act.put, List.setIfInBounds_toArray, List.set_cons_zero, List.set_cons_succ]
            refine wpAnyH_take (i := 12) (oi := ⟨_, _, _, _, _, _⟩) (v := ?v89) rfl (by kernel_rfl) (by kernel_rfl) (by kernel_rfl) (fun _ _ _ h => h) ?y89 hS ?_
            case y89 => first | (refine Or.inr ⟨by rfl, ?_⟩; with_reducible rfl) | (refine Or.inl ⟨by rfl, ?_⟩; intro wS hSw; obtain ⟨c0S, c1S, c2S, c3S, c4S, -, -, c7S, -, -, -⟩ := hSw.1.sc.cells; obtain ⟨-, -, d2S, -, -, -⟩ := three_box hSw.2.1; go_simp; try with_reducible rfl)
            simp only [Act.put, List.setIfInBounds_toArray, List.set_cons_zero, List.set_cons_succ]
            refine wpAnyH_take (i := 13) (oi := ⟨_, _, _, _, _, _⟩) (v := ?v90) rfl (by kernel_rfl) (by kernel_rfl) (by kernel_rfl) (fun _ _ _ h => h) ?y90 hS ?_
            case y90 => first | (refine Or.inr ⟨by rfl, ?_⟩; with_reducible rfl) | (refine Or.inl ⟨by rfl, ?_⟩; intro wS hSw; obtain ⟨c0S, c1S, c2S, c3S, c4S, -, -, c7S, -, -, -⟩ := hSw.1.sc.cells; obtain ⟨-, -, d2S, -, -, -⟩ := three_box hSw.2.1; go_simp; try with_reducible rfl)
            simp only [Act.put, List.setIfInBounds_toArray, List.set_cons_zero, List.set_cons_succ]
            refine wpAnyH_take (i := 14) (oi := ⟨_, _, _, _, _, _⟩) (v := ?v91) rfl (by kernel_rfl) (by kernel_rfl) (by kernel_rfl) (fun _ _ _ h => h) ?y91 hS ?_
            case y91 => first | (refine Or.inr ⟨by rfl, ?_⟩; with_reducible rfl) | (refine Or.inl ⟨by rfl, ?_⟩; intro wS hSw; obtain ⟨c0S, c1S, c2S, c3S, c4S, -, -, c7S, -, -, -⟩ := hSw.1.sc.cells; obtain ⟨-, -, d2S, -, -, -⟩ := three_box hSw.2.1; go_simp; try with_reducible rfl)
            simp only [Act.put, List.setIfInBounds_toArray, List.set_cons_zero, List.set_cons_succ]
            refine wpAnyH_take (i := 15) (oi := ⟨_, _, _, _, _, _⟩) (v := ?v92) rfl (by kernel_rfl) (by kernel_rfl) (by kernel_rfl) (fun _ _ _ h => h) ?y92 hS ?_
            case y92 => first | (refine Or.inr ⟨by rfl, ?_⟩; with_reducible rfl) | (refine Or.inl ⟨by rfl, ?_⟩; intro wS hSw; obtain ⟨c0S, c1S, c2S, c3S, c4S, -, -, c7S, -, -, -⟩ := hSw.1.sc.cells; obtain ⟨-, -, d2S, -, -, -⟩ := three_box hSw.2.1; go_simp; try with_reducible rfl)
            simp only [Act.put, List.setIfInBounds_toArray, List.set_cons_zero, List.set_cons_succ]
            refine wpAnyH_take (i := 16) (oi := ⟨_, _, _, _, _, _⟩) (v := ?v93) rfl (by kernel_rfl) (by kernel_rfl) (by kernel_rfl) (fun _ _ _ h => h) ?y93 hS ?_
            case y93 => first | (refine Or.inr ⟨by rfl, ?_⟩; with_reducible rfl) | (refine Or.inl ⟨by rfl, ?_⟩; intro wS hSw; obtain ⟨c0S, c1S, c2S, c3S, c4S, -, -, c7S, -, -, -⟩ := hSw.1.sc.cells; obtain ⟨-, -, d2S, -, -, -⟩ := three_box hSw.2.1; go_simp; try with_reducible rfl)
            simp only [Act.put, List.setIfInBounds_toArray, List.set_cons_zero, List.set_cons_succ]
            refine wpAnyH_take (i := 17) (oi := ⟨_, _, _, _, _, _⟩) (v := ?v94) rfl (by kernel_rfl) (by kernel_rfl) (by kernel_rfl) (fun _ _ _ h => h) ?y94 hS ?_
            case y94 => first | (refine Or.inr ⟨by rfl, ?_⟩; with_reducible rfl) | (refine Or.inl ⟨by rfl, ?_⟩; intro wS hSw; obtain ⟨c0S, c1S, c2S, c3S, c4S, -, -, c7S, -, -, -⟩ := hSw.1.sc.cells; obtain ⟨-, -, d2S, -, -, -⟩ := three_box hSw.2.1; go_simp; try with_reducible rfl)
            simp only [Act.put, List.setIfInBounds_toArray, List.set_cons_zero, List.set_cons_succ]
            refine wpAnyH_take (i := 18) (oi := ⟨_, _, _, _, _, _⟩) (v := ?v95) rfl (by kernel_rfl) (by kernel_rfl) (by kernel_rfl) (fun _ _ _ h => h) ?y95 hS ?_
            case y95 => first | (refine Or.inr ⟨by rfl, ?_⟩; with_reducible rfl) | (refine Or.inl ⟨by rfl, ?_⟩; intro wS hSw; obtain ⟨c0S, c1S, c2S, c3S, c4S, -, -, c7S, -, -, -⟩ := hSw.1.sc.cells; obtain ⟨-, -, d2S, -, -, -⟩ := three_box hSw.2.1; go_simp; try with_reducible rfl)
            simp only [Act.put, List.setIfInBounds_toArray, List.set_cons_zero, List.set_cons_succ]
            refine wpAnyH_take (i := 19) (oi := ⟨_, _, _, _, _, _⟩) (v := ?v96) rfl (by kernel_rfl) (by kernel_rfl) (by kernel_rfl) (fun _ _ _ h => h) ?y96 hS ?_
            case y96 => first | (refine Or.inr ⟨by rfl, ?_⟩; with_reducible rfl) | (refine Or.inl ⟨by rfl, ?_⟩; intro wS hSw; obtain ⟨c0S, c1S, c2S, c3S, c4S, -, -, c7S, -, -, -⟩ := hSw.1.sc.cells; obtain ⟨-, -, d2S, -, -, -⟩ := three_box hSw.2.1; go_simp; try with_reducible rfl)
            simp only [Act.put, List.setIfInBounds_toArray, List.set_cons_zero, List.set_cons_succ]
            refine wpAnyH_take (i := 20) (oi := ⟨_, _, _, _, _, _⟩) (v := ?v97) rfl (by kernel_rfl) (by kernel_rfl) (by kernel_rfl) (fun _ _ _ h => h) ?y97 hS ?_
            case y97 => first | (refine Or.inr ⟨by rfl, ?_⟩; with_reducible rfl) | (refine Or.inl ⟨by rfl, ?_⟩; intro wS hSw; obtain ⟨c0S, c1S, c2S, c3S, c4S, -, -, c7S, -, -, -⟩ := hSw.1.sc.cells; obtain ⟨-, -, d2S, -, -, -⟩ := three_box hSw.2.1; go_simp; try with_reducible rfl)
            simp only [Act.put, List.setIfInBounds_toArray, List.set_cons_zero, List.set_cons_succ]
            refine wpAnyH_take (i := 21) (oi := ⟨_, _, _, _, _, _⟩) (v := ?v98) rfl (by kernel_rfl) (by kernel_rfl) (by kernel_rfl) (fun _ _ _ h => h) ?y98 hS ?_
            case y98 => first | (refine Or.inr ⟨by rfl, ?_⟩; with_reducible rfl) | (refine Or.inl ⟨by rfl, ?_⟩; intro wS hSw; obtain ⟨c0S, c1S, c2S, c3S, c4S, -, -, c7S, -, -, -⟩ := hSw.1.sc.cells; obtain ⟨-, -, d2S, -, -, -⟩ := three_box hSw.2.1; go_simp; try with_reducible rfl)
            simp only [Act.put, List.setIfInBounds_toArray, List.set_cons_zero, List.set_cons_succ]
            refine wpAnyH_take (i := 22) (oi := ⟨_, _, _, _, _, _⟩) (v := ?v99) rfl (by kernel_rfl) (by kernel_rfl) (by kernel_rfl) (fun _ _ _ h => h) ?y99 hS ?_
            case y99 => first | (refine Or.inr ⟨by rfl, ?_⟩; with_reducible rfl) | (refine Or.inl ⟨by rfl, ?_⟩; intro wS hSw; obtain ⟨c0S, c1S, c2S, c3S, c4S, -, -, c7S, -, -, -⟩ := hSw.1.sc.cells; obtain ⟨-, -, d2S, -, -, -⟩ := three_box hSw.2.1; go_simp; try with_reducible rfl)
            simp only [Act.put, List.setIfInBounds_toArray, List.set_cons_zero, List.set_cons_succ]
            refine wpAnyH_take (i := 23) (oi := ⟨_, _, _, _, _, _⟩) (v := ?v100) rfl (by kernel_rfl) (by kernel_rfl) (by kernel_rfl) (fun _ _ _ h => h) ?y100 hS ?_
            case y100 => first | (refine Or.inr ⟨by rfl, ?_⟩; with_reducible rfl) | (refine Or.inl ⟨by rfl, ?_⟩; intro wS hSw; obtain ⟨c0S, c1S, c2S, c3S, c4S, -, -, c7S, -, -, -⟩ := hSw.1.sc.cells; obtain ⟨-, -, d2S, -, -, -⟩ := three_box hSw.2.1; go_simp; try with_reducible rfl)
            simp only [Act.put, List.setIfInBounds_toArray, List.set_cons_zero, List.set_cons_succ]
            refine wpAnyH_take (i := 24) (oi := ⟨_, _, _, _, _, _⟩) (v := ?v101) rfl (by kernel_rfl) (by kernel_rfl) (by kernel_rfl) (fun _ _ _ h => h) ?y101 hS ?_
            case y101 => first | (refine Or.inr ⟨by rfl, ?_⟩; with_reducible rfl) | (refine Or.inl ⟨by rfl, ?_⟩; intro wS hSw; obtain ⟨c0S, c1S, c2S, c3S, c4S, -, -, c7S, -, -, -⟩ := hSw.1.sc.cells; obtain ⟨-, -, d2S, -, -, -⟩ := three_box hSw.2.1; go_simp; try with_reducible rfl)
            simp only [Act.put, List.setIfInBounds_toArray, List.set_cons_zero, List.set_cons_succ]
            refine wpAnyH_take (i := 25) (oi := ⟨_, _, _, _, _, _⟩) (v := ?v102) rfl (by kernel_rfl) (by kernel_rfl) (by kernel_rfl) (fun _ _ _ h => h) ?y102 hS ?_
            case y102 => first | (refine Or.inr ⟨by rfl, ?_⟩; with_reducible rfl) | (refine Or.inl ⟨by rfl, ?_⟩; intro wS hSw; obtain ⟨c0S, c1S, c2S, c3S, c4S, -, -, c7S, -, -, -⟩ := hSw.1.sc.cells; obtain ⟨-, -, d2S, -, -, -⟩ := three_box hSw.2.1; go_simp; try with_reducible rfl)
            simp only [Act.put, List.setIfInBounds_toArray, List.set_cons_zero, List.set_cons_succ]
            refine wpAnyH_take (i := 26) (oi := ⟨_, _, _, _, _, _⟩) (v := ?v103) rfl (by kernel_rfl) (by kernel_rfl) (by kernel_rfl) (fun _ _ _ h => h) ?y103 hS ?_
            case y103 => first | (refine Or.inr ⟨by rfl, ?_⟩; with_reducible rfl) | (refine Or.inl ⟨by rfl, ?_⟩; intro wS hSw; obtain ⟨c0S, c1S, c2S, c3S, c4S, -, -, c7S, -, -, -⟩ := hSw.1.sc.cells; obtain ⟨-, -, d2S, -, -, -⟩ := three_box hSw.2.1; go_simp; try with_reducible rfl)
            simp only [Act.put, List.setIfInBounds_toArray, List.set_cons_zero, List.set_cons_succ]
            refine wpAnyH_take (i := 27) (oi := ⟨_, _, _, _, _, _⟩) (v := ?v104) rfl (by kernel_rfl) (by kernel_rfl) (by kernel_rfl) (fun _ _ _ h => h) ?y104 hS ?_
            case y104 => first | (refine Or.inr ⟨by rfl, ?_⟩; with_reducible rfl) | (refine Or.inl ⟨by rfl, ?_⟩; intro wS hSw; obtain ⟨c0S, c1S, c2S, c3S, c4S, -, -, c7S, -, -, -⟩ := hSw.1.sc.cells; obtain ⟨-, -, d2S, -, -, -⟩ := three_box hSw.2.1; go_simp; try with_reducible rfl)
            simp only [Act.put, List.setIfInBounds_toArray, List.set_cons_zero, List.set_cons_succ]
            refine wpAnyH_take (i := 28) (oi := ⟨_, _, _, _, _, _⟩) (v := ?v105) rfl (by kernel_rfl) (by kernel_rfl) (by kernel_rfl) (fun _ _ _ h => h) ?y105 hS ?_
            case y105 => first | (refine Or.inr ⟨by rfl, ?_⟩; with_reducible rfl) | (refine Or.inl ⟨by rfl, ?_⟩; intro wS hSw; obtain ⟨c0S, c1S, c2S, c3S, c4S, -, -, c7S, -, -, -⟩ := hSw.1.sc.cells; obtain ⟨-, -, d2S, -, -, -⟩ := three_box hSw.2.1; go_simp; try with_reducible rfl)
            simp only [Act.put, List.setIfInBounds_toArray, List.set_cons_zero, List.set_cons_succ]
            refine wpAnyH_take (i := 29) (oi := ⟨_, _, _, _, _, _⟩) (v := ?v106) rfl (by kernel_rfl) (by kernel_rfl) (by kernel_rfl) (fun _ _ _ h => h) ?y106 hS ?_
            case y106 => first | (refine Or.inr ⟨by rfl, ?_⟩; with_reducible rfl) | (refine Or.inl ⟨by rfl, ?_⟩; intro wS hSw; obtain ⟨c0S, c1S, c2S, c3S, c4S, -, -, c7S, -, -, -⟩ := hSw.1.sc.cells; obtain ⟨-, -, d2S, -, -, -⟩ := three_box hSw.2.1; go_simp; try with_reducible rfl)
            simp only [Act.put, List.setIfInBounds_toArray, List.set_cons_zero, List.set_cons_succ]
            refine wpAnyH_take (i := 30) (oi := ⟨_, _, _, _, _, _⟩) (v := ?v107) rfl (by kernel_rfl) (by kernel_rfl) (by kernel_rfl) (fun _ _ _ h => h) ?y107 hS ?_
            case y107 => first | (refine Or.inr ⟨by rfl, ?_⟩; with_reducible rfl) | (refine Or.inl ⟨by rfl, ?_⟩; intro wS hSw; obtain ⟨c0S, c1S, c2S, c3S, c4S, -, -, c7S, -, -, -⟩ := hSw.1.sc.cells; obtain ⟨-, -, d2S, -, -, -⟩ := three_box hSw.2.1; go_simp; try with_reducible rfl)
            simp only [Act.put, List.setIfInBounds_toArray, List.set_cons_zero, List.set_cons_succ]
            refine wpAnyH_take (i := 31) (oi := ⟨_, _, _, _, _, _⟩) (v := ?v108) rfl (by kernel_rfl) (by kernel_rfl) (by kernel_rfl) (fun _ _ _ h => h) ?y108 hS ?_
            case y108 => first | (refine Or.inr ⟨by rfl, ?_⟩; with_reducible rfl) | (refine Or.inl ⟨by rfl, ?_⟩; intro wS hSw; obtain ⟨c0S, c1S, c2S, c3S, c4S, -, -, c7S, -, -, -⟩ := hSw.1.sc.cells; obtain ⟨-, -, d2S, -, -, -⟩ := three_box hSw.2.1; go_simp; try with_reducible rfl)
            simp only [Act.put, List.setIfInBounds_toArray, List.set_cons_zero, List.set_cons_succ]
            refine wpAnyH_take (i := 32) (oi := ⟨_, _, _, _, _, _⟩) (v := ?v109) rfl (by kernel_rfl) (by kernel_rfl) (by kernel_rfl) (fun _ _ _ h => h) ?y109 hS ?_
            case y109 => first | (refine Or.inr ⟨by rfl, ?_⟩; with_reducible rfl) | (refine Or.inl ⟨by rfl, ?_⟩; intro wS hSw; obtain ⟨c0S, c1S, c2S, c3S, c4S, -, -, c7S, -, -, -⟩ := hSw.1.sc.cells; obtain ⟨-, -, d2S, -, -, -⟩ := three_box hSw.2.1; go_simp; try with_reducible rfl)
            simp only [Act.put, List.setIfInBounds_toArray, List.set_cons_zero, List.set_cons_succ]
            refine wpAnyH_take (i := 33) (oi := ⟨_, _, _, _, _, _⟩) (v := ?v110) rfl (by kernel_rfl) (by kernel_rfl) (by kernel_rfl) (fun _ _ _ h => h) ?y110 hS ?_
            case y110 => first | (refine Or.inr ⟨by rfl, ?_⟩; with_reducible rfl) | (refine Or.inl ⟨by rfl, ?_⟩; intro wS hSw; obtain ⟨c0S, c1S, c2S, c3S, c4S, -, -, c7S, -, -, -⟩ := hSw.1.sc.cells; obtain ⟨-, -, d2S, -, -, -⟩ := three_box hSw.2.1; go_simp; try with_reducible rfl)
            simp only [Act.put, List.setIfInBounds_toArray, List.set_cons_zero, List.set_cons_succ]
            refine wpAnyH_take (i := 34) (oi := ⟨_, _, _, _, _, _⟩) (v := ?v111) rfl (by kernel_rfl) (by kernel_rfl) (by kernel_rfl) (fun _ _ _ h => h) ?y111 hS ?_
            case y111 => first | (refine Or.inr ⟨by rfl, ?_⟩; with_reducible rfl) | (refine Or.inl ⟨by rfl, ?_⟩; intro wS hSw; obtain ⟨c0S, c1S, c2S, c3S, c4S, -, -, c7S, -, -, -⟩ := hSw.1.sc.cells; obtain ⟨-, -, d2S, -, -, -⟩ := three_box hSw.2.1; go_simp; try with_reducible rfl)
            simp only [Act.put, List.setIfInBounds_toArray, List.set_cons_zero, List.set_cons_succ]
            refine wpAnyH_take (i := 35) (oi := ⟨_, _, _, _, _, _⟩) (v := ?v112) rfl (by kernel_rfl) (by kernel_rfl) (by kernel_rfl) (fun _ _ _ h => h) ?y112 hS ?_
            case y112 => first | (refine Or.inr ⟨by rfl, ?_⟩; with_reducible rfl) | (refine Or.inl ⟨by rfl, ?_⟩; intro wS hSw; obtain ⟨c0S, c1S, c2S, c3S, c4S, -, -, c7S, -, -, -⟩ := hSw.1.sc.cells; obtain ⟨-, -, d2S, -, -, -⟩ := three_box hSw.2.1; go_simp; try with_reducible rfl)
            simp only [Act.put, List.setIfInBounds_toArray, List.set_cons_zero, List.set_cons_succ]
            refine wpAnyH_take (i := 36) (oi := ⟨_, _, _, _, _, _⟩) (v := ?v113) rfl (by kernel_rfl) (by kernel_rfl) (by kernel_rfl) (fun _ _ _ h => h) ?y113 hS ?_
            case y113 => first | (refine Or.inr ⟨by rfl, ?_⟩; with_reducible rfl) | (refine Or.inl ⟨by rfl, ?_⟩; intro wS hSw; obtain ⟨c0S, c1S, c2S, c3S, c4S, -, -, c7S, -, -, -⟩ := hSw.1.sc.cells; obtain ⟨-, -, d2S, -, -, -⟩ := three_box hSw.2.1; go_simp; try with_reducible rfl)
            simp only [Act.put, List.setIfInBounds_toArray, List.set_cons_zero, List.set_cons_succ]
            refine wpAnyH_take (i := 37) (oi := ⟨_, _, _, _, _, _⟩) (v := ?v114) rfl (by kernel_rfl) (by kernel_rfl) (by kernel_rfl) (fun _ _ _ h => h) ?y114 hS ?_
            case y114 => first | (refine Or.inr ⟨by rfl, ?_⟩; with_reducible rfl) | (refine Or.inl ⟨by rfl, ?_⟩; intro wS hSw; obtain ⟨c0S, c1S, c2S, c3S, c4S, -, -, c7S, -, -, -⟩ := hSw.1.sc.cells; obtain ⟨-, -, d2S, -, -, -⟩ := three_box hSw.2.1; go_simp; try with_reducible rfl)
            simp only [Act.put, List.setIfInBounds_toArray, List.set_cons_zero, List.set_cons_succ]
            refine wpAnyH_take (i := 38) (oi := ⟨_, _, _, _, _, _⟩) (v := ?v115) rfl (by kernel_rfl) (by kernel_rfl) (by kernel_rfl) (fun _ _ _ h => h) ?y115 hS ?_
            case y115 => first | (refine Or.inr ⟨by rfl, ?_⟩; with_reducible rfl) | (refine Or.inl ⟨by rfl, ?_⟩; intro wS hSw; obtain ⟨c0S, c1S, c2S, c3S, c4S, -, -, c7S, -, -, -⟩ := hSw.1.sc.cells; obtain ⟨-, -, d2S, -, -, -⟩ := three_box hSw.2.1; go_simp; try with_reducible rfl)
            simp only [Act.put, List.setIfInBounds_toArray, List.set_cons_zero, List.set_cons_succ]
            refine wpAnyH_take (i := 39) (oi := ⟨_, _, _, _, _, _⟩) (v := ?v116) rfl (by kernel_rfl) (by kernel_rfl) (by kernel_rfl) (fun _ _ _ h => h) ?y116 hS ?_
            case y116 => first | (refine Or.inr ⟨by rfl, ?_⟩; with_reducible rfl) | (refine Or.inl ⟨by rfl, ?_⟩; intro wS hSw; obtain ⟨c0S, c1S, c2S, c3S, c4S, -, -, c7S, -, -, -⟩ := hSw.1.sc.cells; obtain ⟨-, -, d2S, -, -, -⟩ := three_box hSw.2.1; go_simp; try with_reducible rfl)
            simp only [Act.put, List.setIfInBounds_toArray, List.set_cons_zero, List.set_cons_succ]
            refine wpAnyH_take (i := 40) (oi := ⟨_, _, _, _, _, _⟩) (v := ?v117) rfl (by kernel_rfl) (by kernel_rfl) (by kernel_rfl) (fun _ _ _ h => h) ?y117 hS ?_
            case y117 => first | (refine Or.inr ⟨by rfl, ?_⟩; with_reducible rfl) | (refine Or.inl ⟨by rfl, ?_⟩; intro wS hSw; obtain ⟨c0S, c1S, c2S, c3S, c4S, -, -, c7S, -, -, -⟩ := hSw.1.sc.cells; obtain ⟨-, -, d2S, -, -, -⟩ := three_box hSw.2.1; go_simp; try with_reducible rfl)
            simp only [Act.put, List.setIfInBounds_toArray, List.set_cons_zero, List.set_cons_succ]
            refine wpAnyH_take (i := 41) (oi := ⟨_, _, _, _, _, _⟩) (v := ?v118) rfl (by kernel_rfl) (by kernel_rfl) (by kernel_rfl) (fun _ _ _ h => h) ?y118 hS ?_
            case y118 => first | (refine Or.inr ⟨by rfl, ?_⟩; with_reducible rfl) | (refine Or.inl ⟨by rfl, ?_⟩; intro wS hSw; obtain ⟨c0S, c1S, c2S, c3S, c4S, -, -, c7S, -, -, -⟩ := hSw.1.sc.cells; obtain ⟨-, -, d2S, -, -, -⟩ := three_box hSw.2.1; go_simp; try with_reducible rfl)
            simp only [Act.put, List.setIfInBounds_toArray, List.set_cons_zero, List.set_cons_succ]
            refine wpAnyH_take (i := 42) (oi := ⟨_, _, _, _, _, _⟩) (v := ?v119) rfl (by kernel_rfl) (by kernel_rfl) (by kernel_rfl) (fun _ _ _ h => h) ?y119 hS ?_
            case y119 => first | (refine Or.inr ⟨by rfl, ?_⟩; with_reducible rfl) | (refine Or.inl ⟨by rfl, ?_⟩; intro wS hSw; obtain ⟨c0S, c1S, c2S, c3S, c4S, -, -, c7S, -, -, -⟩ := hSw.1.sc.cells; obtain ⟨-, -, d2S, -, -, -⟩ := three_box hSw.2.1; go_simp; try with_reducible rfl)
            simp only [Act.put, List.setIfInBounds_toArray, List.set_cons_zero, List.set_cons_succ]
            refine wpAnyH_take (i := 43) (oi := ⟨_, _, _, _, _, _⟩) (v := ?v120) rfl (by kernel_rfl) (by kernel_rfl) (by kernel_rfl) (fun _ _ _ h => h) ?y120 hS ?_
            case y120 => first | (refine Or.inr ⟨by rfl, ?_⟩; with_reducible rfl) | (refine Or.inl ⟨by rfl, ?_⟩; intro wS hSw; obtain ⟨c0S, c1S, c2S, c3S, c4S, -, -, c7S, -, -, -⟩ := hSw.1.sc.cells; obtain ⟨-, -, d2S, -, -, -⟩ := three_box hSw.2.1; go_simp; try with_reducible rfl)
            simp only [Act.put, List.setIfInBounds_toArray, List.set_cons_zero, List.set_cons_succ]
            refine wpAnyH_take (i := 44) (oi := ⟨_, _, _, _, _, _⟩) (v := ?v121) rfl (by kernel_rfl) (by kernel_rfl) (by kernel_rfl) (fun _ _ _ h => h) ?y121 hS ?_
            case y121 => first | (refine Or.inr ⟨by rfl, ?_⟩; with_reducible rfl) | (refine Or.inl ⟨by rfl, ?_⟩; intro wS hSw; obtain ⟨c0S, c1S, c2S, c3S, c4S, -, -, c7S, -, -, -⟩ := hSw.1.sc.cells; obtain ⟨-, -, d2S, -, -, -⟩ := three_box hSw.2.1; go_simp; try with_reducible rfl)
            simp only [Act.put, List.setIfInBounds_toArray, List.set_cons_zero, List.set_cons_succ]
            refine wpAnyH_take (i := 45) (oi := ⟨_, _, _, _, _, _⟩) (v := ?v122) rfl (by kernel_rfl) (by kernel_rfl) (by kernel_rfl) (fun _ _ _ h => h) ?y122 hS ?_
            case y122 => first | (refine Or.inr ⟨by rfl, ?_⟩; with_reducible rfl) | (refine Or.inl ⟨by rfl, ?_⟩; intro wS hSw; obtain ⟨c0S, c1S, c2S, c3S, c4S, -, -, c7S, -, -, -⟩ := hSw.1.sc.cells; obtain ⟨-, -, d2S, -, -, -⟩ := three_box hSw.2.1; go_simp; try with_reducible rfl)
            simp only [Act.put, List.setIfInBounds_toArray, List.set_cons_zero, List.set_cons_succ]
            refine wpAnyH_take (i := 46) (oi := ⟨_, _, _, _, _, _⟩) (v := ?v123) rfl (by kernel_rfl) (by kernel_rfl) (by kernel_rfl) (fun _ _ _ h => h) ?y123 hS ?_
            case y123 => first | (refine Or.inr ⟨by rfl, ?_⟩; with_reducible rfl) | (refine Or.inl ⟨by rfl, ?_⟩; intro wS hSw; obtain ⟨c0S, c1S, c2S, c3S, c4S, -, -, c7S, -, -, -⟩ := hSw.1.sc.cells; obtain ⟨-, -, d2S, -, -, -⟩ := three_box hSw.2.1; go_simp; try with_reducible rfl)
            simp only [Act.put, List.setIfInBounds_toArray, List.set_cons_zero, List.set_cons_succ]
            refine wpAnyH_take (i := 47) (oi := ⟨_, _, _, _, _, _⟩) (v := ?v124) rfl (by kernel_rfl) (by kernel_rfl) (by kernel_rfl) (fun _ _ _ h => h) ?y124 hS ?_
            case y124 => first | (refine Or.inr ⟨by rfl, ?_⟩; with_reducible rfl) | (refine Or.inl ⟨by rfl, ?_⟩; intro wS hSw; obtain ⟨c0S, c1S, c2S, c3S, c4S, -, -, c7S, -, -, -⟩ := hSw.1.sc.cells; obtain ⟨-, -, d2S, -, -, -⟩ := three_box hSw.2.1; go_simp; try with_reducible rfl)
            simp only [Act.put, List.setIfInBounds_toArray, List.set_cons_zero, List.set_cons_succ]
            refine wpAnyH_take (i := 48) (oi := ⟨_, _, _, _, _, _⟩) (v := ?v125) rfl (by kernel_rfl) (by kernel_rfl) (by kernel_rfl) (fun _ _ _ h => h) ?y125 hS ?_
            case y125 => first | (refine Or.inr ⟨by rfl, ?_⟩; with_reducible rfl) | (refine Or.inl ⟨by rfl, ?_⟩; intro wS hSw; obtain ⟨c0S, c1S, c2S, c3S, c4S, -, -, c7S, -, -, -⟩ := hSw.1.sc.cells; obtain ⟨-, -, d2S, -, -, -⟩ := three_box hSw.2.1; go_simp; try with_reducible rfl)
            simp only [Act.put, List.setIfInBounds_toArray, List.set_cons_zero, List.set_cons_succ]
            refine wpAnyH_take (i := 49) (oi := ⟨_, _, _, _, _, _⟩) (v := ?v126) rfl (by kernel_rfl) (by kernel_rfl) (by kernel_rfl) (fun _ _ _ h => h) ?y126 hS ?_
            case y126 => first | (refine Or.inr ⟨by rfl, ?_⟩; with_reducible rfl) | (refine Or.inl ⟨by rfl, ?_⟩; intro wS hSw; obtain ⟨c0S, c1S, c2S, c3S, c4S, -, -, c7S, -, -, -⟩ := hSw.1.sc.cells; obtain ⟨-, -, d2S, -, -, -⟩ := three_box hSw.2.1; go_simp; try with_reducible rfl)
            simp only [Act.put, List.setIfInBounds_toArray, List.set_cons_zero, List.set_cons_succ]
            have hM2 := M.out
            have hYb := HYb.out
            have hT := HT.out
            obtain ⟨-, -, -, -, -, -, -, c7, -, -, f7⟩ := hM2.sc.cells
            have M2 := Lib.hid hM2
            have HYb2 := Lib.hid hYb
            have HT2 := Lib.hid hT
            clear hM2 hYb hT
            refine wpAnyH_ready (rs := [50]) (by kernel_rfl) (by simp) ?_
            refine AllReadyH.cons (o := ⟨_, _, _, _, _, _⟩) rfl (fun K hK => ?_) AllReadyH.nil
            go_simp
            obtain ⟨q1, q2⟩ := sc_ok M2.out.sc true
            have hM3 : Mid base w _ s m sv (F ++ [(p, f)]) sb p lev (.slice aao z acap) (.slice rao' (rds ++ [((rdOf f lev).1, (rdOf f lev).2.1, (rdOf f lev).2.2.2)]).length rcap') (.slice lao k lcap) (rds ++ [((rdOf f lev).1, (rdOf f lev).2.1, (rdOf f lev).2.2.2)]) gl true l := ⟨M2.out.st.keepT q2 (by decide) (by decide) (by decide), q1, M2.out.an.keep (KeepT.mono q2 (by decide) (fun h => by simp at h)), q2.cells M2.out.res (by decide), KeepT.trans M2.out.kp (KeepT.mono q2 (by decide) (fun h => h))⟩
            have hY3 := q2.cells HYb2.out (by decide)
            have hT3 := HT2.out.keepT q2 (by decide)
            have hM3 := hM3.later ((Below.refl _ _).drew)
            have hT3 := hT3.later ((Below.refl _ _).drew)
            refine hK.out _ _ ⟨hM3, hY3, hT3⟩ (fun _ => ?_)
            clear hK K
            try simp only [Act.put, List.setIfInBounds_toArray, List.set_cons_zero, List.set_cons_succ]
            refine wpAnyH_done (by kernel_rfl) ?_ _
            go_wp2_with fail
            go_meet
            exact hM3
          · have hn1 := hn1.resolve_right h0
            have hz : ((n : Int) == 0) = false := by simp; omega
            have hz2 : decide (n = 0) = false := by simpa using h0
            have hw : IntKind.i64.wrap ((n : Int) - 1) = (n1 : Int) := by rw [show (n : Int) - 1 = n1 by omega]; exact IntWalk.i64_in _ (by have := Hn.out; omega)
            have hrs0 : (rdOf f lev).2.2.2 = 3 := by unfold rdOf; rw [if_pos ⟨hr1, hr2⟩]
            have hrs : ((rdOf f lev).2.2.2 == 3) = true := by rw [hrs0]; rfl
            have hrs2 : decide ((rdOf f lev).2.2.2 = 3) = true := by rw [hrs0]; rfl
            have hrs3 : decide (¬ (rdOf f lev).2.2.2 = 3) = false := by rw [hrs0]; rfl
            have hrs4 : ((rdOf f lev).2.2.2 != 3) = false := by rw [hrs0]; rfl
            have qN := fun (wq : World) => (show (binOp .neq 49 (.int .i64 (rdOf f lev).2.2.2) (.int .i64 3)).run Try.prog wq = .ok (.bool false) wq by rw [hrs0]; go_simp)
            clear hrs0
            have hrt : (rdOf f lev).2.2.1 = (atA l n1).tree := by unfold rdOf; rw [if_pos ⟨hr1, hr2⟩]; show f.tree = _; rw [hr3, hn1]; rfl
            have HRT := Lib.hid hrt
            clear h0 hn1 hr1 hr2 hr3 hrt
            refine wp_region_held_drew (S := fun wq => Mid base w wq s m sv (F ++ [(p, f)]) sb p lev (.slice aao z acap) (.slice rao' (rds ++ [((rdOf f lev).1, (rdOf f lev).2.1, (rdOf f lev).2.2.2)]).length rcap') (.slice lao k lcap) (rds ++ [((rdOf f lev).1, (rdOf f lev).2.1, (rdOf f lev).2.2.2)]) gl true l ∧ wq.heap[Y]? = some (.cells #[.int .i64 (rdOf f lev).1, .int .i64 (rdOf f lev).2.1, .slice tao (rdOf f lev).2.2.1.length tcap] 74 (0, 0)) ∧ TwIn wq (.slice tao (rdOf f lev).2.2.1.length tcap) (rdOf f lev).2.2.1) (by kernel_rfl) ⟨M.out.later HDr.out, (HDr.out.block _ (lt_of_block HYb.out)).trans HYb.out, HT.out.later HDr.out⟩ (fun hS => ?_)
            refine wpAnyH_take (i := 0) (oi := ⟨_, _, _, _, _, _⟩) (v := ?v127) rfl (by kernel_rfl) (by kernel_rfl) (by kernel_rfl) (fun _ _ _ h => h) ?y127 hS ?_
            case y127 => first | (refine Or.inr ⟨by rfl, ?_⟩; with_reducible rfl) | (refine Or.inl ⟨by rfl, ?_⟩; intro wS hSw; obtain ⟨c0S, c1S, c2S, c3S, c4S, -, -, c7S, -, -, -⟩ := hSw.1.sc.cells; obtain ⟨-, -, d2S, -, -, -⟩ := three_box hSw.2.1; go_simp; try with_reducible rfl)
            simp only [Act.put, List.setIfInBounds_toArray, List.set_cons_zero, List.set_cons_succ]
            refine wpAnyH_take (i := 1) (oi := ⟨_, _, _, _, _, _⟩) (v := ?v128) rfl (by kernel_rfl) (by kernel_rfl) (by kernel_rfl) (fun _ _ _ h => h) ?y128 hS ?_
            case y128 => first | (refine Or.inr ⟨by rfl, ?_⟩; with_reducible rfl) | (refine Or.inl ⟨by rfl, ?_⟩; intro wS hSw; obtain ⟨c0S, c1S, c2S, c3S, c4S, -, -, c7S, -, -, -⟩ := hSw.1.sc.cells; obtain ⟨-, -, d2S, -, -, -⟩ := three_box hSw.2.1; go_simp; try with_reducible rfl)
            simp only [Act.put, List.setIfInBounds_toArray, List.set_cons_zero, List.set_cons_succ]
            refine wpAnyH_take (i := 2) (oi := ⟨_, _, _, _, _, _⟩) (v := ?v129) rfl (by kernel_rfl) (by kernel_rfl) (by kernel_rfl) (fun _ _ _ h => h) ?y129 hS ?_
            case y129 => first | (refine Or.inr ⟨by rfl, ?_⟩; with_reducible rfl) | (refine Or.inl ⟨by rfl, ?_⟩; intro wS hSw; obtain ⟨c0S, c1S, c2S, c3S, c4S, -, -, c7S, -, -, -⟩ := hSw.1.sc.cells; obtain ⟨-, -, d2S, -, -, -⟩ := three_box hSw.2.1; go_simp; try with_reducible rfl)
            simp only [Act.put, List.setIfInBounds_toArray, List.set_cons_zero, List.set_cons_succ]
            refine wpAnyH_take (i := 3) (oi := ⟨_, _, _, _, _, _⟩) (v := ?v130) rfl (by kernel_rfl) (by kernel_rfl) (by kernel_rfl) (fun _ _ _ h => h) ?y130 hS ?_
            case y130 => first | (refine Or.inr ⟨by rfl, ?_⟩; with_reducible rfl) | (refine Or.inl ⟨by rfl, ?_⟩; intro wS hSw; obtain ⟨c0S, c1S, c2S, c3S, c4S, -, -, c7S, -, -, -⟩ := hSw.1.sc.cells; obtain ⟨-, -, d2S, -, -, -⟩ := three_box hSw.2.1; go_simp; try with_reducible rfl)
            simp only [Act.put, List.setIfInBounds_toArray, List.set_cons_zero, List.set_cons_succ]
            refine wpAnyH_take (i := 4) (oi := ⟨_, _, _, _, _, _⟩) (v := ?v131) rfl (by kernel_rfl) (by kernel_rfl) (by kernel_rfl) (fun _ _ _ h => h) ?y131 hS ?_
            case y131 => first | (refine Or.inr ⟨by rfl, ?_⟩; with_reducible rfl) | (refine Or.inl ⟨by rfl, ?_⟩; intro wS hSw; obtain ⟨c0S, c1S, c2S, c3S, c4S, -, -, c7S, -, -, -⟩ := hSw.1.sc.cells; obtain ⟨-, -, d2S, -, -, -⟩ := three_box hSw.2.1; go_simp; try with_reducible rfl)
            simp only [Act.put, List.setIfInBounds_toArray, List.set_cons_zero, List.set_cons_succ]
            refine wpAnyH_take (i := 5) (oi := ⟨_, _, _, _, _, _⟩) (v := ?v132) rfl (by kernel_rfl) (by kernel_rfl) (by kernel_rfl) (fun _ _ _ h => h) ?y132 hS ?_
            case y132 => first | (refine Or.inr ⟨by rfl, ?_⟩; with_reducible rfl) | (refine Or.inl ⟨by rfl, ?_⟩; intro wS hSw; obtain ⟨c0S, c1S, c2S, c3S, c4S, -, -, c7S, -, -, -⟩ := hSw.1.sc.cells; obtain ⟨-, -, d2S, -, -, -⟩ := three_box hSw.2.1; go_simp; try with_reducible rfl)
            simp only [Act.put, List.setIfInBounds_toArray, List.set_cons_zero, List.set_cons_succ]
            refine wpAnyH_take (i := 6) (oi := ⟨_, _, _, _, _, _⟩) (v := ?v133) rfl (by kernel_rfl) (by kernel_rfl) (by kernel_rfl) (fun _ _ _ h => h) ?y133 hS ?_
            case y133 => first | (refine Or.inr ⟨by rfl, ?_⟩; with_reducible rfl) | (refine Or.inl ⟨by rfl, ?_⟩; intro wS hSw; obtain ⟨c0S, c1S, c2S, c3S, c4S, -, -, c7S, -, -, -⟩ := hSw.1.sc.cells; obtain ⟨-, -, d2S, -, -, -⟩ := three_box hSw.2.1; go_simp; try with_reducible rfl)
            simp only [Act.put, List.setIfInBounds_toArray, List.set_cons_zero, List.set_cons_succ]
            refine wpAnyH_take (i := 7) (oi := ⟨_, _, _, _, _, _⟩) (v := ?v134) rfl (by kernel_rfl) (by kernel_rfl) (by kernel_rfl) (fun _ _ _ h => h) ?y134 hS ?_
            case y134 => first | (refine Or.inr ⟨by rfl, ?_⟩; with_reducible rfl) | (refine Or.inl ⟨by rfl, ?_⟩; intro wS hSw; obtain ⟨c0S, c1S, c2S, c3S, c4S, -, -, c7S, -, -, -⟩ := hSw.1.sc.cells; obtain ⟨-, -, d2S, -, -, -⟩ := three_box hSw.2.1; go_simp; try with_reducible rfl)
            simp only [Act.put, List.setIfInBounds_toArray, List.set_cons_zero, List.set_cons_succ]
            refine wpAnyH_take (i := 8) (oi := ⟨_, _, _, _, _, _⟩) (v := ?v135) rfl (by kernel_rfl) (by kernel_rfl) (by kernel_rfl) (fun _ _ _ h => h) ?y135 hS ?_
            case y135 => first | (refine Or.inr ⟨by rfl, ?_⟩; with_reducible rfl) | (refine Or.inl ⟨by rfl, ?_⟩; intro wS hSw; obtain ⟨c0S, c1S, c2S, c3S, c4S, -, -, c7S, -, -, -⟩ := hSw.1.sc.cells; obtain ⟨-, -, d2S, -, -, -⟩ := three_box hSw.2.1; go_simp; try with_reducible rfl)
            simp only [Act.put, List.setIfInBounds_toArray, List.set_cons_zero, List.set_cons_succ]
            refine wpAnyH_take (i := 9) (oi := ⟨_, _, _, _, _, _⟩) (v := ?v136) rfl (by kernel_rfl) (by kernel_rfl) (by kernel_rfl) (fun _ _ _ h => h) ?y136 hS ?_
            case y136 => first | (refine Or.inr ⟨by rfl, ?_⟩; with_reducible rfl) | (refine Or.inl ⟨by rfl, ?_⟩; intro wS hSw; obtain ⟨c0S, c1S, c2S, c3S, c4S, -, -, c7S, -, -, -⟩ := hSw.1.sc.cells; obtain ⟨-, -, d2S, -, -, -⟩ := three_box hSw.2.1; go_simp; try with_reducible rfl)
            simp only [Act.put, List.setIfInBounds_toArray, List.set_cons_zero, List.set_cons_succ]
            refine wpAnyH_take (i := 10) (oi := ⟨_, _, _, _, _, _⟩) (v := ?v137) rfl (by kernel_rfl) (by kernel_rfl) (by kernel_rfl) (fun _ _ _ h => h) ?y137 hS ?_
            case y137 => first | (refine Or.inr ⟨by rfl, ?_⟩; with_reducible rfl) | (refine Or.inl ⟨by rfl, ?_⟩; intro wS hSw; obtain ⟨c0S, c1S, c2S, c3S, c4S, -, -, c7S, -, -, -⟩ := hSw.1.sc.cells; obtain ⟨-, -, d2S, -, -, -⟩ := three_box hSw.2.1; go_simp; try with_reducible rfl)
            simp only [Act.put, List.setIfInBounds_toArray, List.set_cons_zero, List.set_cons_succ]
            refine wpAnyH_take (i := 11) (oi := ⟨_, _, _, _, _, _⟩) (v := ?v138) rfl (by kernel_rfl) (by kernel_rfl) (by kernel_rfl) (fun _ _ _ h => h) ?y138 hS ?_
            case y138 => first | (refine Or.inr ⟨by rfl, ?_⟩; with_reducible rfl) | (refine Or.inl ⟨by rfl, ?_⟩; intro wS hSw; obtain ⟨c0S, c1S, c2S, c3S, c4S, -, -, c7S, -, -, -⟩ := hSw.1.sc.cells; obtain ⟨-, -, d2S, -, -, -⟩ := three_box hSw.2.1; go_simp; try with_reducible rfl)
            simp only [Act.put, List.setIfInBounds_toArray, List.set_cons_zero, List.set_cons_succ]
            refine wpAnyH_take (i := 12) (oi := ⟨_, _, _, _, _, _⟩) (v := ?v139) rfl (by kernel_rfl) (by kernel_rfl) (by kernel_rfl) (fun _ _ _ h => h) ?y139 hS ?_
            case y139 => first | (refine Or.inr ⟨by rfl, ?_⟩; with_reducible rfl) | (refine Or.inl ⟨by rfl, ?_⟩; intro wS hSw; obtain ⟨c0S, c1S, c2S, c3S, c4S, -, -, c7S, -, -, -⟩ := hSw.1.sc.cells; obtain ⟨-, -, d2S, -, -, -⟩ := three_box hSw.2.1; go_simp; try with_reducible rfl)
            simp only [Act.put, List.setIfInBounds_toArray, List.set_cons_zero, List.set_cons_succ]
            refine wpAnyH_take (i := 13) (oi := ⟨_, _, _, _, _, _⟩) (v := ?v140) rfl (by kernel_rfl) (by kernel_rfl) (by kernel_rfl) (fun _ _ _ h => h) ?y140 hS ?_
            case y140 => first | (refine Or.inr ⟨by rfl, ?_⟩; with_reducible rfl) | (refine Or.inl ⟨by rfl, ?_⟩; intro wS hSw; obtain ⟨c0S, c1S, c2S, c3S, c4S, -, -, c7S, -, -, -⟩ := hSw.1.sc.cells; obtain ⟨-, -, d2S, -, -, -⟩ := three_box hSw.2.1; go_simp; try with_reducible rfl)
            simp only [Act.put, List.setIfInBounds_toArray, List.set_cons_zero, List.set_cons_succ]
            refine wpAnyH_take (i := 14) (oi := ⟨_, _, _, _, _, _⟩) (v := ?v141) rfl (by kernel_rfl) (by kernel_rfl) (by kernel_rfl) (fun _ _ _ h => h) ?y141 hS ?_
            case y141 => first | (refine Or.inr ⟨by rfl, ?_⟩; with_reducible rfl) | (refine Or.inl ⟨by rfl, ?_⟩; intro wS hSw; obtain ⟨c0S, c1S, c2S, c3S, c4S, -, -, c7S, -, -, -⟩ := hSw.1.sc.cells; obtain ⟨-, -, d2S, -, -, -⟩ := three_box hSw.2.1; go_simp; try with_reducible rfl)
            simp only [Act.put, List.setIfInBounds_toArray, List.set_cons_zero, List.set_cons_succ]
            refine wpAnyH_take (i := 15) (oi := ⟨_, _, _, _, _, _⟩) (v := ?v142) rfl (by kernel_rfl) (by kernel_rfl) (by kernel_rfl) (fun _ _ _ h => h) ?y142 hS ?_
            case y142 => first | (refine Or.inr ⟨by rfl, ?_⟩; with_reducible rfl) | (refine Or.inl ⟨by rfl, ?_⟩; intro wS hSw; obtain ⟨c0S, c1S, c2S, c3S, c4S, -, -, c7S, -, -, -⟩ := hSw.1.sc.cells; obtain ⟨-, -, d2S, -, -, -⟩ := three_box hSw.2.1; go_simp; try with_reducible rfl)
            simp only [Act.put, List.setIfInBounds_toArray, List.set_cons_zero, List.set_cons_succ]
            refine wpAnyH_take (i := 16) (oi := ⟨_, _, _, _, _, _⟩) (v := ?v143) rfl (by kernel_rfl) (by kernel_rfl) (by kernel_rfl) (fun _ _ _ h => h) ?y143 hS ?_
            case y143 => first | (refine Or.inr ⟨by rfl, ?_⟩; with_reducible rfl) | (refine Or.inl ⟨by rfl, ?_⟩; intro wS hSw; obtain ⟨c0S, c1S, c2S, c3S, c4S, -, -, c7S, -, -, -⟩ := hSw.1.sc.cells; obtain ⟨-, -, d2S, -, -, -⟩ := three_box hSw.2.1; go_simp; try with_reducible rfl)
            simp only [Act.put, List.setIfInBounds_toArray, List.set_cons_zero, List.set_cons_succ]
            refine wpAnyH_take (i := 17) (oi := ⟨_, _, _, _, _, _⟩) (v := ?v144) rfl (by kernel_rfl) (by kernel_rfl) (by kernel_rfl) (fun _ _ _ h => h) ?y144 hS ?_
            case y144 => first | (refine Or.inr ⟨by rfl, ?_⟩; with_reducible rfl) | (refine Or.inl ⟨by rfl, ?_⟩; intro wS hSw; obtain ⟨c0S, c1S, c2S, c3S, c4S, -, -, c7S, -, -, -⟩ := hSw.1.sc.cells; obtain ⟨-, -, d2S, -, -, -⟩ := three_box hSw.2.1; go_simp; try with_reducible rfl)
            simp only [Act.put, List.setIfInBounds_toArray, List.set_cons_zero, List.set_cons_succ]
            refine wpAnyH_take (i := 18) (oi := ⟨_, _, _, _, _, _⟩) (v := ?v145) rfl (by kernel_rfl) (by kernel_rfl) (by kernel_rfl) (fun _ _ _ h => h) ?y145 hS ?_
            case y145 => first | (refine Or.inr ⟨by rfl, ?_⟩; with_reducible rfl) | (refine Or.inl ⟨by rfl, ?_⟩; intro wS hSw; obtain ⟨c0S, c1S, c2S, c3S, c4S, -, -, c7S, -, -, -⟩ := hSw.1.sc.cells; obtain ⟨-, -, d2S, -, -, -⟩ := three_box hSw.2.1; go_simp; try with_reducible rfl)
            simp only [Act.put, List.setIfInBounds_toArray, List.set_cons_zero, List.set_cons_succ]
            refine wpAnyH_take (i := 19) (oi := ⟨_, _, _, _, _, _⟩) (v := ?v146) rfl (by kernel_rfl) (by kernel_rfl) (by kernel_rfl) (fun _ _ _ h => h) ?y146 hS ?_
            case y146 => first | (refine Or.inr ⟨by rfl, ?_⟩; with_reducible rfl) | (refine Or.inl ⟨by rfl, ?_⟩; intro wS hSw; obtain ⟨c0S, c1S, c2S, c3S, c4S, -, -, c7S, -, -, -⟩ := hSw.1.sc.cells; obtain ⟨-, -, d2S, -, -, -⟩ := three_box hSw.2.1; go_simp; try with_reducible rfl)
            simp only [Act.put, List.setIfInBounds_toArray, List.set_cons_zero, List.set_cons_succ]
            refine wpAnyH_take (i := 20) (oi := ⟨_, _, _, _, _, _⟩) (v := ?v147) rfl (by kernel_rfl) (by kernel_rfl) (by kernel_rfl) (fun _ _ _ h => h) ?y147 hS ?_
            case y147 => first | (refine Or.inr ⟨by rfl, ?_⟩; with_reducible rfl) | (refine Or.inl ⟨by rfl, ?_⟩; intro wS hSw; obtain ⟨c0S, c1S, c2S, c3S, c4S, -, -, c7S, -, -, -⟩ := hSw.1.sc.cells; obtain ⟨-, -, d2S, -, -, -⟩ := three_box hSw.2.1; go_simp; try with_reducible rfl)
            simp only [Act.put, List.setIfInBounds_toArray, List.set_cons_zero, List.set_cons_succ]
            refine wpAnyH_take (i := 21) (oi := ⟨_, _, _, _, _, _⟩) (v := ?v148) rfl (by kernel_rfl) (by kernel_rfl) (by kernel_rfl) (fun _ _ _ h => h) ?y148 hS ?_
            case y148 => first | (refine Or.inr ⟨by rfl, ?_⟩; with_reducible rfl) | (refine Or.inl ⟨by rfl, ?_⟩; intro wS hSw; obtain ⟨c0S, c1S, c2S, c3S, c4S, -, -, c7S, -, -, -⟩ := hSw.1.sc.cells; obtain ⟨-, -, d2S, -, -, -⟩ := three_box hSw.2.1; go_simp; try with_reducible rfl)
            simp only [Act.put, List.setIfInBounds_toArray, List.set_cons_zero, List.set_cons_succ]
            refine wpAnyH_take (i := 22) (oi := ⟨_, _, _, _, _, _⟩) (v := ?v149) rfl (by kernel_rfl) (by kernel_rfl) (by kernel_rfl) (fun _ _ _ h => h) ?y149 hS ?_
            case y149 => first | (refine Or.inr ⟨by rfl, ?_⟩; with_reducible rfl) | (refine Or.inl ⟨by rfl, ?_⟩; intro wS hSw; obtain ⟨c0S, c1S, c2S, c3S, c4S, -, -, c7S, -, -, -⟩ := hSw.1.sc.cells; obtain ⟨-, -, d2S, -, -, -⟩ := three_box hSw.2.1; go_simp; try with_reducible rfl)
            simp only [Act.put, List.setIfInBounds_toArray, List.set_cons_zero, List.set_cons_succ]
            refine wpAnyH_take (i := 23) (oi := ⟨_, _, _, _, _, _⟩) (v := ?v150) rfl (by kernel_rfl) (by kernel_rfl) (by kernel_rfl) (fun _ _ _ h => h) ?y150 hS ?_
            case y150 => first | (refine Or.inr ⟨by rfl, ?_⟩; with_reducible rfl) | (refine Or.inl ⟨by rfl, ?_⟩; intro wS hSw; obtain ⟨c0S, c1S, c2S, c3S, c4S, -, -, c7S, -, -, -⟩ := hSw.1.sc.cells; obtain ⟨-, -, d2S, -, -, -⟩ := three_box hSw.2.1; go_simp; try with_reducible rfl)
            simp only [Act.put, List.setIfInBounds_toArray, List.set_cons_zero, List.set_cons_succ]
            refine wpAnyH_take (i := 24) (oi := ⟨_, _, _, _, _, _⟩) (v := ?v151) rfl (by kernel_rfl) (by kernel_rfl) (by kernel_rfl) (fun _ _ _ h => h) ?y151 hS ?_
            case y151 => first | (refine Or.inr ⟨by rfl, ?_⟩; with_reducible rfl) | (refine Or.inl ⟨by rfl, ?_⟩; intro wS hSw; obtain ⟨c0S, c1S, c2S, c3S, c4S, -, -, c7S, -, -, -⟩ := hSw.1.sc.cells; obtain ⟨-, -, d2S, -, -, -⟩ := three_box hSw.2.1; go_simp; try with_reducible rfl)
            simp only [Act.put, List.setIfInBounds_toArray, List.set_cons_zero, List.set_cons_succ]
            refine wpAnyH_take (i := 25) (oi := ⟨_, _, _, _, _, _⟩) (v := ?v152) rfl (by kernel_rfl) (by kernel_rfl) (by kernel_rfl) (fun _ _ _ h => h) ?y152 hS ?_
            case y152 => first | (refine Or.inr ⟨by rfl, ?_⟩; with_reducible rfl) | (refine Or.inl ⟨by rfl, ?_⟩; intro wS hSw; obtain ⟨c0S, c1S, c2S, c3S, c4S, -, -, c7S, -, -, -⟩ := hSw.1.sc.cells; obtain ⟨-, -, d2S, -, -, -⟩ := three_box hSw.2.1; go_simp; try with_reducible rfl)
            simp only [Act.put, List.setIfInBounds_toArray, List.set_cons_zero, List.set_cons_succ]
            refine wpAnyH_take (i := 26) (oi := ⟨_, _, _, _, _, _⟩) (v := ?v153) rfl (by kernel_rfl) (by kernel_rfl) (by kernel_rfl) (fun _ _ _ h => h) ?y153 hS ?_
            case y153 => first | (refine Or.inr ⟨by rfl, ?_⟩; with_reducible rfl) | (refine Or.inl ⟨by rfl, ?_⟩; intro wS hSw; obtain ⟨c0S, c1S, c2S, c3S, c4S, -, -, c7S, -, -, -⟩ := hSw.1.sc.cells; obtain ⟨-, -, d2S, -, -, -⟩ := three_box hSw.2.1; go_simp; try with_reducible rfl)
            simp only [Act.put, List.setIfInBounds_toArray, List.set_cons_zero, List.set_cons_succ]
            refine wpAnyH_take (i := 27) (oi := ⟨_, _, _, _, _, _⟩) (v := ?v154) rfl (by kernel_rfl) (by kernel_rfl) (by kernel_rfl) (fun _ _ _ h => h) ?y154 hS ?_
            case y154 => first | (refine Or.inr ⟨by rfl, ?_⟩; with_reducible rfl) | (refine Or.inl ⟨by rfl, ?_⟩; intro wS hSw; obtain ⟨c0S, c1S, c2S, c3S, c4S, -, -, c7S, -, -, -⟩ := hSw.1.sc.cells; obtain ⟨-, -, d2S, -, -, -⟩ := three_box hSw.2.1; go_simp; try with_reducible rfl)
            simp only [Act.put, List.setIfInBounds_toArray, List.set_cons_zero, List.set_cons_succ]
            refine wpAnyH_take (i := 28) (oi := ⟨_, _, _, _, _, _⟩) (v := ?v155) rfl (by kernel_rfl) (by kernel_rfl) (by kernel_rfl) (fun _ _ _ h => h) ?y155 hS ?_
            case y155 => first | (refine Or.inr ⟨by rfl, ?_⟩; with_reducible rfl) | (refine Or.inl ⟨by rfl, ?_⟩; intro wS hSw; obtain ⟨c0S, c1S, c2S, c3S, c4S, -, -, c7S, -, -, -⟩ := hSw.1.sc.cells; obtain ⟨-, -, d2S, -, -, -⟩ := three_box hSw.2.1; go_simp; try with_reducible rfl)
            simp only [Act.put, List.setIfInBounds_toArray, List.set_cons_zero, List.set_cons_succ]
            refine wpAnyH_take (i := 29) (oi := ⟨_, _, _, _, _, _⟩) (v := ?v156) rfl (by kernel_rfl) (by kernel_rfl) (by kernel_rfl) (fun _ _ _ h => h) ?y156 hS ?_
            case y156 => first | (refine Or.inr ⟨by rfl, ?_⟩; with_reducible rfl) | (refine Or.inl ⟨by rfl, ?_⟩; intro wS hSw; obtain ⟨c0S, c1S, c2S, c3S, c4S, -, -, c7S, -, -, -⟩ := hSw.1.sc.cells; obtain ⟨-, -, d2S, -, -, -⟩ := three_box hSw.2.1; go_simp; try with_reducible rfl)
            simp only [Act.put, List.setIfInBounds_toArray, List.set_cons_zero, List.set_cons_succ]
            refine wpAnyH_take (i := 30) (oi := ⟨_, _, _, _, _, _⟩) (v := ?v157) rfl (by kernel_rfl) (by kernel_rfl) (by kernel_rfl) (fun _ _ _ h => h) ?y157 hS ?_
            case y157 => first | (refine Or.inr ⟨by rfl, ?_⟩; with_reducible rfl) | (refine Or.inl ⟨by rfl, ?_⟩; intro wS hSw; obtain ⟨c0S, c1S, c2S, c3S, c4S, -, -, c7S, -, -, -⟩ := hSw.1.sc.cells; obtain ⟨-, -, d2S, -, -, -⟩ := three_box hSw.2.1; go_simp; try with_reducible rfl)
            simp only [Act.put, List.setIfInBounds_toArray, List.set_cons_zero, List.set_cons_succ]
            refine wpAnyH_take (i := 31) (oi := ⟨_, _, _, _, _, _⟩) (v := ?v158) rfl (by kernel_rfl) (by kernel_rfl) (by kernel_rfl) (fun _ _ _ h => h) ?y158 hS ?_
            case y158 => first | (refine Or.inr ⟨by rfl, ?_⟩; with_reducible rfl) | (refine Or.inl ⟨by rfl, ?_⟩; intro wS hSw; obtain ⟨c0S, c1S, c2S, c3S, c4S, -, -, c7S, -, -, -⟩ := hSw.1.sc.cells; obtain ⟨-, -, d2S, -, -, -⟩ := three_box hSw.2.1; go_simp; try with_reducible rfl)
            simp only [Act.put, List.setIfInBounds_toArray, List.set_cons_zero, List.set_cons_succ]
            refine wpAnyH_take (i := 32) (oi := ⟨_, _, _, _, _, _⟩) (v := ?v159) rfl (by kernel_rfl) (by kernel_rfl) (by kernel_rfl) (fun _ _ _ h => h) ?y159 hS ?_
            case y159 => first | (refine Or.inr ⟨by rfl, ?_⟩; with_reducible rfl) | (refine Or.inl ⟨by rfl, ?_⟩; intro wS hSw; obtain ⟨c0S, c1S, c2S, c3S, c4S, -, -, c7S, -, -, -⟩ := hSw.1.sc.cells; obtain ⟨-, -, d2S, -, -, -⟩ := three_box hSw.2.1; go_simp; try with_reducible rfl)
            simp only [Act.put, List.setIfInBounds_toArray, List.set_cons_zero, List.set_cons_succ]
            refine wpAnyH_take (i := 33) (oi := ⟨_, _, _, _, _, _⟩) (v := ?v160) rfl (by kernel_rfl) (by kernel_rfl) (by kernel_rfl) (fun _ _ _ h => h) ?y160 hS ?_
            case y160 => first | (refine Or.inr ⟨by rfl, ?_⟩; with_reducible rfl) | (refine Or.inl ⟨by rfl, ?_⟩; intro wS hSw; obtain ⟨c0S, c1S, c2S, c3S, c4S, -, -, c7S, -, -, -⟩ := hSw.1.sc.cells; obtain ⟨-, -, d2S, -, -, -⟩ := three_box hSw.2.1; go_simp; try with_reducible rfl)
            simp only [Act.put, List.setIfInBounds_toArray, List.set_cons_zero, List.set_cons_succ]
            refine wpAnyH_take (i := 34) (oi := ⟨_, _, _, _, _, _⟩) (v := ?v161) rfl (by kernel_rfl) (by kernel_rfl) (by kernel_rfl) (fun _ _ _ h => h) ?y161 hS ?_
            case y161 => first | (refine Or.inr ⟨by rfl, ?_⟩; with_reducible rfl) | (refine Or.inl ⟨by rfl, ?_⟩; intro wS hSw; obtain ⟨c0S, c1S, c2S, c3S, c4S, -, -, c7S, -, -, -⟩ := hSw.1.sc.cells; obtain ⟨-, -, d2S, -, -, -⟩ := three_box hSw.2.1; go_simp; try with_reducible rfl)
            simp only [Act.put, List.setIfInBounds_toArray, List.set_cons_zero, List.set_cons_succ]
            refine wpAnyH_take (i := 35) (oi := ⟨_, _, _, _, _, _⟩) (v := ?v162) rfl (by kernel_rfl) (by kernel_rfl) (by kernel_rfl) (fun _ _ _ h => h) ?y162 hS ?_
            case y162 => first | (refine Or.inr ⟨by rfl, ?_⟩; with_reducible rfl) | (refine Or.inl ⟨by rfl, ?_⟩; intro wS hSw; obtain ⟨c0S, c1S, c2S, c3S, c4S, -, -, c7S, -, -, -⟩ := hSw.1.sc.cells; obtain ⟨-, -, d2S, -, -, -⟩ := three_box hSw.2.1; go_simp; try with_reducible rfl)
            simp only [Act.put, List.setIfInBounds_toArray, List.set_cons_zero, List.set_cons_succ]
            refine wpAnyH_take (i := 36) (oi := ⟨_, _, _, _, _, _⟩) (v := ?v163) rfl (by kernel_rfl) (by kernel_rfl) (by kernel_rfl) (fun _ _ _ h => h) ?y163 hS ?_
            case y163 => first | (refine Or.inr ⟨by rfl, ?_⟩; with_reducible rfl) | (refine Or.inl ⟨by rfl, ?_⟩; intro wS hSw; obtain ⟨c0S, c1S, c2S, c3S, c4S, -, -, c7S, -, -, -⟩ := hSw.1.sc.cells; obtain ⟨-, -, d2S, -, -, -⟩ := three_box hSw.2.1; go_simp; try with_reducible rfl)
            simp only [Act.put, List.setIfInBounds_toArray, List.set_cons_zero, List.set_cons_succ]
            refine wpAnyH_take (i := 37) (oi := ⟨_, _, _, _, _, _⟩) (v := ?v164) rfl (by kernel_rfl) (by kernel_rfl) (by kernel_rfl) (fun _ _ _ h => h) ?y164 hS ?_
            case y164 => first | (refine Or.inr ⟨by rfl, ?_⟩; with_reducible rfl) | (refine Or.inl ⟨by rfl, ?_⟩; intro wS hSw; obtain ⟨c0S, c1S, c2S, c3S, c4S, -, -, c7S, -, -, -⟩ := hSw.1.sc.cells; obtain ⟨-, -, d2S, -, -, -⟩ := three_box hSw.2.1; go_simp; try with_reducible rfl)
            simp only [Act.put, List.setIfInBounds_toArray, List.set_cons_zero, List.set_cons_succ]
            refine wpAnyH_take (i := 38) (oi := ⟨_, _, _, _, _, _⟩) (v := ?v165) rfl (by kernel_rfl) (by kernel_rfl) (by kernel_rfl) (fun _ _ _ h => h) ?y165 hS ?_
            case y165 => first | (refine Or.inr ⟨by rfl, ?_⟩; with_reducible rfl) | (refine Or.inl ⟨by rfl, ?_⟩; intro wS hSw; obtain ⟨c0S, c1S, c2S, c3S, c4S, -, -, c7S, -, -, -⟩ := hSw.1.sc.cells; obtain ⟨-, -, d2S, -, -, -⟩ := three_box hSw.2.1; go_simp; try with_reducible rfl)
            simp only [Act.put, List.setIfInBounds_toArray, List.set_cons_zero, List.set_cons_succ]
            refine wpAnyH_take (i := 39) (oi := ⟨_, _, _, _, _, _⟩) (v := ?v166) rfl (by kernel_rfl) (by kernel_rfl) (by kernel_rfl) (fun _ _ _ h => h) ?y166 hS ?_
            case y166 => first | (refine Or.inr ⟨by rfl, ?_⟩; with_reducible rfl) | (refine Or.inl ⟨by rfl, ?_⟩; intro wS hSw; obtain ⟨c0S, c1S, c2S, c3S, c4S, -, -, c7S, -, -, -⟩ := hSw.1.sc.cells; obtain ⟨-, -, d2S, -, -, -⟩ := three_box hSw.2.1; go_simp; try with_reducible rfl)
            simp only [Act.put, List.setIfInBounds_toArray, List.set_cons_zero, List.set_cons_succ]
            refine wpAnyH_take (i := 40) (oi := ⟨_, _, _, _, _, _⟩) (v := ?v167) rfl (by kernel_rfl) (by kernel_rfl) (by kernel_rfl) (fun _ _ _ h => h) ?y167 hS ?_
            case y167 => first | (refine Or.inr ⟨by rfl, ?_⟩; with_reducible rfl) | (refine Or.inl ⟨by rfl, ?_⟩; intro wS hSw; obtain ⟨c0S, c1S, c2S, c3S, c4S, -, -, c7S, -, -, -⟩ := hSw.1.sc.cells; obtain ⟨-, -, d2S, -, -, -⟩ := three_box hSw.2.1; go_simp; try with_reducible rfl)
            simp only [Act.put, List.setIfInBounds_toArray, List.set_cons_zero, List.set_cons_succ]
            refine wpAnyH_take (i := 41) (oi := ⟨_, _, _, _, _, _⟩) (v := ?v168) rfl (by kernel_rfl) (by kernel_rfl) (by kernel_rfl) (fun _ _ _ h => h) ?y168 hS ?_
            case y168 => first | (refine Or.inr ⟨by rfl, ?_⟩; with_reducible rfl) | (refine Or.inl ⟨by rfl, ?_⟩; intro wS hSw; obtain ⟨c0S, c1S, c2S, c3S, c4S, -, -, c7S, -, -, -⟩ := hSw.1.sc.cells; obtain ⟨-, -, d2S, -, -, -⟩ := three_box hSw.2.1; go_simp; try with_reducible rfl)
            simp only [Act.put, List.setIfInBounds_toArray, List.set_cons_zero, List.set_cons_succ]
            refine wpAnyH_ready (rs := [42]) (by kernel_rfl) (by simp) ?_
            refine AllReadyH.cons (o := ⟨_, _, _, _, _, _⟩) rfl (fun K hK => ?_) AllReadyH.nil
            go_simp
            refine (at_any _ l n1 _ (M.out.later HDr.out).an.at).mono ?_
            rintro e wx ⟨rfl, hbx⟩
            have hS : Mid base w wx s m sv (F ++ [(p, f)]) sb p lev (.slice aao z acap) (.slice rao' (rds ++ [((rdOf f lev).1, (rdOf f lev).2.1, (rdOf f lev).2.2.2)]).length rcap') (.slice lao k lcap) (rds ++ [((rdOf f lev).1, (rdOf f lev).2.1, (rdOf f lev).2.2.2)]) gl true l ∧ wx.heap[Y]? = some (.cells #[.int .i64 (rdOf f lev).1, .int .i64 (rdOf f lev).2.1, .slice tao (rdOf f lev).2.2.1.length tcap] 74 (0, 0)) ∧ TwIn wx (.slice tao (rdOf f lev).2.2.1.length tcap) (rdOf f lev).2.2.1 := ⟨hS.1.later hbx, (hbx.block _ (lt_of_block hS.2.1)).trans hS.2.1, hS.2.2.later hbx⟩
            obtain ⟨ao2, cap2, hv2⟩ := (atA_tw hS.1.an.at n1).val
            unfold anv
            rw [hv2]
            go_wp2_with fail
            refine hK.out _ _ (hS) (fun _ => ?_)
            clear hK K
            try simp only [Act.put, List.setIfInBounds_toArray, List.set_cons_zero, List.set_cons_succ]
            have q43 := an_field0
            have q44 := fo_field3
            refine wpAnyH_take (i := 43) (oi := ⟨_, _, _, _, _, _⟩) (v := ?v169) rfl (by kernel_rfl) (by kernel_rfl) (by kernel_rfl) (fun _ _ _ h => h) ?y169 hS ?_
            case y169 => first | (refine Or.inr ⟨by rfl, ?_⟩; with_reducible rfl) | (refine Or.inl ⟨by rfl, ?_⟩; intro wS hSw; go_simp; try with_reducible rfl)
            simp only [Act.put, List.setIfInBounds_toArray, List.set_cons_zero, List.set_cons_succ]
            refine wpAnyH_take (i := 44) (oi := ⟨_, _, _, _, _, _⟩) (v := ?v170) rfl (by kernel_rfl) (by kernel_rfl) (by kernel_rfl) (fun _ _ _ h => h) ?y170 hS ?_
            case y170 => first | (refine Or.inr ⟨by rfl, ?_⟩; with_reducible rfl) | (refine Or.inl ⟨by rfl, ?_⟩; intro wS hSw; go_simp; try with_reducible rfl)
            simp only [Act.put, List.setIfInBounds_toArray, List.set_cons_zero, List.set_cons_succ]
            clear q43 q44
            refine wpAnyH_ready (rs := [45]) (by kernel_rfl) (by simp) ?_
            refine AllReadyH.cons (o := ⟨_, _, _, _, _, _⟩) rfl (fun K hK => ?_) AllReadyH.nil
            go_simp
            refine (sameTwigs_any _ _ (atA l n1).tree _ (by rw [← HRT.out]; exact hS.2.2.1) (by have := atA_tw hS.1.an.at n1; rw [hv2] at this; exact this)).mono ?_
            rintro e wy ⟨rfl, hby⟩
            have hS : Mid base w wy s m sv (F ++ [(p, f)]) sb p lev (.slice aao z acap) (.slice rao' (rds ++ [((rdOf f lev).1, (rdOf f lev).2.1, (rdOf f lev).2.2.2)]).length rcap') (.slice lao k lcap) (rds ++ [((rdOf f lev).1, (rdOf f lev).2.1, (rdOf f lev).2.2.2)]) gl true l ∧ wy.heap[Y]? = some (.cells #[.int .i64 (rdOf f lev).1, .int .i64 (rdOf f lev).2.1, .slice tao (rdOf f lev).2.2.1.length tcap] 74 (0, 0)) ∧ TwIn wy (.slice tao (rdOf f lev).2.2.1.length tcap) (rdOf f lev).2.2.1 := ⟨hS.1.later hby, (hby.block _ (lt_of_block hS.2.1)).trans hS.2.1, hS.2.2.later hby⟩
            go_wp2_with fail
            refine hK.out _ _ (hS) (fun _ => ?_)
            clear hK K
            try simp only [Act.put, List.setIfInBounds_toArray, List.set_cons_zero, List.set_cons_succ]
            refine wpAnyH_take (i := 46) (oi := ⟨_, _, _, _, _, _⟩) (v := ?v171) rfl (by kernel_rfl) (by kernel_rfl) (by kernel_rfl) (fun _ _ _ h => h) ?y171 hS ?_
            case y171 => first | (refine Or.inr ⟨by rfl, ?_⟩; with_reducible rfl) | (refine Or.inl ⟨by rfl, ?_⟩; intro wS hSw; go_simp; try with_reducible rfl)
            simp only [Act.put, List.setIfInBounds_toArray, List.set_cons_zero, List.set_cons_succ]
            refine wpAnyH_take (i := 47) (oi := ⟨_, _, _, _, _, _⟩) (v := ?v172) rfl (by kernel_rfl) (by kernel_rfl) (by kernel_rfl) (fun _ _ _ h => h) ?y172 hS ?_
            case y172 => first | (refine Or.inr ⟨by rfl, ?_⟩; with_reducible rfl) | (refine Or.inl ⟨by rfl, ?_⟩; intro wS hSw; go_simp; try with_reducible rfl)
            simp only [Act.put, List.setIfInBounds_toArray, List.set_cons_zero, List.set_cons_succ]
            refine wpAnyH_take (i := 48) (oi := ⟨_, _, _, _, _, _⟩) (v := ?v173) rfl (by kernel_rfl) (by kernel_rfl) (by kernel_rfl) (fun _ _ _ h => h) ?y173 hS ?_
            case y173 => first | (refine Or.inr ⟨by rfl, ?_⟩; with_reducible rfl) | (refine Or.inl ⟨by rfl, ?_⟩; intro wS hSw; obtain ⟨c0S, c1S, c2S, c3S, c4S, -, -, c7S, -, -, -⟩ := hSw.1.sc.cells; obtain ⟨-, -, d2S, -, -, -⟩ := three_box hSw.2.1; go_simp; try with_reducible rfl)
            simp only [Act.put, List.setIfInBounds_toArray, List.set_cons_zero, List.set_cons_succ]
            refine wpAnyH_take (i := 49) (oi := ⟨_, _, _, _, _, _⟩) (v := ?v174) rfl (by kernel_rfl) (by kernel_rfl) (by kernel_rfl) (fun _ _ _ h => h) ?y174 hS ?_
            case y174 => first | (refine Or.inr ⟨by rfl, ?_⟩; with_reducible rfl) | (refine Or.inl ⟨by rfl, ?_⟩; intro wS hSw; obtain ⟨c0S, c1S, c2S, c3S, c4S, -, -, c7S, -, -, -⟩ := hSw.1.sc.cells; obtain ⟨-, -, d2S, -, -, -⟩ := three_box hSw.2.1; go_simp; try with_reducible rfl)
            simp only [Act.put, List.setIfInBounds_toArray, List.set_cons_zero, List.set_cons_succ]
            have hM2 := hS.1
            have hYb := hS.2.1
            have hT := hS.2.2
            obtain ⟨-, -, -, -, -, -, -, c7, -, -, f7⟩ := hM2.sc.cells
            have M2 := Lib.hid hM2
            have HYb2 := Lib.hid hYb
            have HT2 := Lib.hid hT
            clear hM2 hYb hT
            refine wpAnyH_ready (rs := [50]) (by kernel_rfl) (by simp) ?_
            refine AllReadyH.cons (o := ⟨_, _, _, _, _, _⟩) rfl (fun K hK => ?_) AllReadyH.nil
            go_simp
            obtain ⟨q1, q2⟩ := sc_ok M2.out.sc true
            have hM3 : Mid base w _ s m sv (F ++ [(p, f)]) sb p lev (.slice aao z acap) (.slice rao' (rds ++ [((rdOf f lev).1, (rdOf f lev).2.1, (rdOf f lev).2.2.2)]).length rcap') (.slice lao k lcap) (rds ++ [((rdOf f lev).1, (rdOf f lev).2.1, (rdOf f lev).2.2.2)]) gl true l := ⟨M2.out.st.keepT q2 (by decide) (by decide) (by decide), q1, M2.out.an.keep (KeepT.mono q2 (by decide) (fun h => by simp at h)), q2.cells M2.out.res (by decide), KeepT.trans M2.out.kp (KeepT.mono q2 (by decide) (fun h => h))⟩
            have hY3 := q2.cells HYb2.out (by decide)
            have hT3 := HT2.out.keepT q2 (by decide)
            refine hK.out _ _ ⟨hM3, hY3, hT3⟩ (fun _ => ?_)
            clear hK K
            try simp only [Act.put, List.setIfInBounds_toArray, List.set_cons_zero, List.set_cons_succ]
            refine wpAnyH_done (by kernel_rfl) ?_ _
            go_wp2_with fail
            go_meet
            exact hM3
      case rest =>
        clear M HYb HT
        have M := Lib.hid hcut
        obtain ⟨-, -, -, -, c4, -, -, -, -, -, -⟩ := hcut.sc.cells
        clear hcut
        go_wp2_with fail
        refine (at_any _ l n _ M.out.an.at).mono ?_
        rintro e w6 ⟨rfl, hb6⟩
        have hM := M.out.later hb6
        obtain ⟨tgo, tgc, htv⟩ := (atA_tw hM.an.at n).val
        have htw := atA_tw hM.an.at n
        rw [htv] at htw
        clear c4 M
        have M := Lib.hid hM
        have HTW := Lib.hid htw
        unfold anv
        rw [htv]
        have HTV := Lib.hid htv
        clear hM htw htv hb6
        go_upto_region 8 with (fail)
        refine gen_world (S := fun u => Below w6.heap.size w6 u ∧ u.heap[w6.heap.size]? = some (.cells #[.bool (atA l n).is, .int .i64 (atA l n).en, .int .i64 (atA l n).far, .slice tgo (atA l n).tree.length tgc, .int .i64 (atA l n).err] 53 (0, 0)) ∧ u.heap[w6.heap.size + 1]? = some (.cells #[.bool (atA l n).is, .int .i64 (atA l n).en, .int .i64 (atA l n).far, .slice tgo (atA l n).tree.length tgc] 38 (0, 0))) (two_new w6 _ _) (fun u8 hu => ?_)
        obtain ⟨hb8, hA8, hF8⟩ := hu
        obtain ⟨-, -, -, d3, -, -, -, g3⟩ := four_box hF8
        have hM := M.out.later hb8
        have htw := HTW.out.later hb8
        have HA8 := Lib.hid hA8
        have HF8 := Lib.hid hF8
        have HB8 := Lib.hid hb8
        have hXX : w6.heap.size + 1 < u8.heap.size := lt_of_block hF8
        obtain ⟨X, hX⟩ : ∃ X, X = w6.heap.size := ⟨_, rfl⟩
        rw [← hX] at d3 g3 HA8 HF8 hXX ⊢
        have HX := Lib.hid hX
        have M8 := Lib.hid hM
        have HTW8 := Lib.hid htw
        clear hb8 hA8 hF8 hM htw hX
        go_wp2_with fail
        refine (lentTwigs_any _ _ u8 HTW8.out Ht.out).mono ?_
        rintro e w9 ⟨rfl, hL9, hb9⟩
        have hF9 := (hb9.block _ (lt_of_block HF8.out)).trans HF8.out
        have hA9 := (hb9.block _ (lt_of_block HA8.out)).trans HA8.out
        have HF9 := Lib.hid hF9
        have HA9 := Lib.hid hA9
        have HB9 := Lib.hid hb9
        have HL9 := Lib.hid hL9
        clear d3 g3 hA9 hb9 hL9
        obtain ⟨-, -, -, d3, -, -, -, g3⟩ := four_box hF9
        clear hF9
        obtain ⟨G, hG⟩ : ∃ G, G = u8.heap.size := ⟨_, rfl⟩
        rw [← hG] at HL9 ⊢
        have HG := Lib.hid hG
        clear hG
        go_upto_region 9 with (fail)
        refine gen_world (S := fun u => Mid base w u s m sv (F ++ [(p, f)]) sb p lev (.slice aao z acap) (.slice rao' (rds ++ [((rdOf f lev).1, (rdOf f lev).2.1, (rdOf f lev).2.2.2)]).length rcap') (.slice lao k lcap) (rds ++ [((rdOf f lev).1, (rdOf f lev).2.1, (rdOf f lev).2.2.2)]) gl true l ∧ TLentAt u G (atA l n).tree ∧ u.heap[X]? = some (.cells #[.bool (atA l n).is, .int .i64 (atA l n).en, .int .i64 (atA l n).far, .slice tgo (atA l n).tree.length tgc, .int .i64 (atA l n).err] 53 (0, 0)) ∧ u.heap[X + 1]? = some (.cells #[.bool (atA l n).is, .int .i64 (atA l n).en, .int .i64 (atA l n).far, lntv (G, (atA l n).tree)] 38 (0, 0)))
          ⟨M.out.later (((HB8.out.trans (HB9.out.mono HB8.out.size))).setCell (p := ⟨X + 1, 3, none⟩) (by rw [HX.out]; show w6.heap.size ≤ w6.heap.size + 1; omega) _), (Below.heap_setCell _ _ _ _ (by show G ≠ X + 1; rw [HG.out]; omega)).trans HL9.out, (Below.heap_setCell _ _ _ _ (by show X ≠ X + 1; omega)).trans HA9.out, block_setCell' HF9.out⟩ (fun u9 hu => ?_)
        obtain ⟨hM, hL, hA, hFo⟩ := hu
        have hgk : ∀ x ∈ gl, x.1 ≠ G := fun x hx => by have := lt_of_block (M8.out.sc.lents x hx); rw [HG.out]; omega
        have hGw : w.heap.size ≤ G := by rw [HG.out]; exact M8.out.kp.size
        have Hgk := Lib.hid hgk
        have HGw := Lib.hid hGw
        clear M M8 HTW HTW8 HF8 HA8 HB8 HF9 HA9 HB9 HL9 d3 g3 hgk hGw hXX
        have M := Lib.hid hM
        have HL := Lib.hid hL
        have HA := Lib.hid hA
        have HFo := Lib.hid hFo
        obtain ⟨-, -, -, -, -, -, c6, -, -, f6, -⟩ := hM.sc.cells
        obtain ⟨-, -, -, d3, -, -, -, -⟩ := four_box hFo
        unfold lntv at d3
        simp only at d3
        clear hM hL hA hFo
        go_cut [] (fun w1 => ∃ lv', (Mid base w w1 s m sv (F ++ [(p, f)]) sb p lev (.slice aao z acap) (.slice rao' (rds ++ [((rdOf f lev).1, (rdOf f lev).2.1, (rdOf f lev).2.2.2)]).length rcap') lv' (rds ++ [((rdOf f lev).1, (rdOf f lev).2.1, (rdOf f lev).2.2.2)]) (gl ++ [(G, (atA l n).tree)]) true l) ∧ w1.heap[X]? = some (.cells #[.bool (atA l n).is, .int .i64 (atA l n).en, .int .i64 (atA l n).far, .slice tgo (atA l n).tree.length tgc, .int .i64 (atA l n).err] 53 (0, 0)) ∧ w1.heap[X + 1]? = some (.cells #[.bool (atA l n).is, .int .i64 (atA l n).en, .int .i64 (atA l n).far, lntv (G, (atA l n).tree)] 38 (0, 0)))
        case first =>
          obtain ⟨i0, hi0, hz0, hz1, hz2⟩ := info_parts Try.infoTwigs
          have hrow : u9.ownsRow base 36 1 (.slice lao k lcap) k (gl.map lntv) := by have := M.out.sc.lnt; rwa [← HK.out] at this
          have hru := lt_of_block M.out.sc.blk
          have Hne := Lib.hid (own_ne' M.out.sc.blk (by decide) hrow)
          have Hrow := Lib.hid hrow
          have hn5 : k < 100000 := by have := Hg.out; have := Hn.out; omega
          have hbw : base ≤ u9.heap.size := by have := M.out.kp.size; have := Hbw.out; omega
          clear hrow
          go_region_law (refine step_append_lies _ (by rfl) _ _ _ (by rfl) base 36 i0 _ 1 24 Try.underlying33 hi0 hz0 hz1 hz2 rfl (by omega) (.slice lao k lcap) k (gl.map lntv) (by rfl) (((Keeps.drew (Keeps.refl (fun _ => False) u9)).row Hrow.out (fun _ _ h => h)).alloc _) ⟨u9.heap.size, 0, none⟩ 1 1 [lntv (G, (atA l n).tree)] (by rfl) (by rfl) (World.news_of_block (cs := #[lntv (G, (atA l n).tree)]) (t := 36) (fr := (0, 0)) (heap_alloc_new u9.drew _)) (by intro u hu; simp at hu; subst hu; rfl) (by omega) (by unfold maxLen; omega) (by omega) (by simp; omega) (u9.heap.size + 1) (by simp) ?_; intro g cap w2 hown2 hgrow hat hlt; have e0 := (hgrow.cell_far ⟨sb, 6, none⟩ (by simp; omega) (Ne.symm Hne.out)).trans ((World.cell?_alloc_old u9.drew _ ⟨sb, 6, none⟩ (by simp <;> omega)).trans c6); have e1 := (hgrow.frozen_far ⟨sb, 6, none⟩ (by simp; omega) (Ne.symm Hne.out)).trans ((Below.frozen (p := ⟨sb, 6, none⟩) ((Below.refl u9.heap.size u9).drew.alloc (Nat.le_refl _) _) hru).trans f6))
          all_goals go_wp2_with fail
          all_goals go_meet
          all_goals
            obtain ⟨q1, q2⟩ := sc_lents (r := (G, (atA l n).tree)) M.out.sc ((Below.refl u9.heap.size u9).drew.alloc (Nat.le_refl _) _) (by rw [← HK.out]; exact hown2) hgrow (fun k hk => by simp [Value.ownBlock] at hk; subst hk; rcases hat with h | h; (exact .inl h); (exact .inr (by omega))) (by rw [← HK.out]; omega) HL.out (by have := HGw.out; have := Hbw.out; omega) Hgk.out
            exact ⟨_, ⟨M.out.st.keepT q2 (by decide) (by decide) (by decide), q1, M.out.an.keep (KeepT.mono q2 (by decide) (fun h => by simp at h)), q2.cells M.out.res (by decide), KeepT.trans M.out.kp (KeepT.mono q2 (by decide) (fun h => h))⟩, q2.cells HA.out (by decide), q2.cells HFo.out (by decide)⟩
        case rest =>
          clear M HL HA HFo c6 f6 d3
          obtain ⟨lv', hM, hA, hFo⟩ := hcut
          have M := Lib.hid hM
          have HA := Lib.hid hA
          have HFo := Lib.hid hFo
          obtain ⟨r0, r1, r2, r3, k0, k1, k2, k3⟩ := four_box hM.res
          obtain ⟨d0, d1, d2, d3, -, -, -, -⟩ := four_box hFo
          obtain ⟨-, -, -, -, b4, -⟩ := five_box hA
          unfold lntv at d3
          simp only at d3
          clear hM hA hFo
          go_wp2_with fail
          go_region
          all_goals go_wp2
          all_goals
            obtain ⟨q, hq⟩ := set4 M.out.res (.bool (atA l n).is) (.int .i64 (atA l n).en) (.int .i64 (atA l n).far) (.slice (some ⟨G, 0, none⟩) (atA l n).tree.length ((atA l n).tree.length + 12))
            obtain ⟨q0, q1, q2, q3, -, -, -, -⟩ := four_box q
            have hkq : KeepT 0 [38] false wc _ := Keeps.mono hq fun k _ e => by subst e; exact ⟨Nat.zero_le _, by unfold Tyb; rw [M.out.res]; simp⟩
            have hsc := (M.out.sc.keepT hkq (by decide) (by decide) (by decide) (by decide)).later ((Below.refl _ _).drew)
            rw [HZ.out] at hsc
            exact bodyPost_ret (v := .tuple #[.agg #[.bool (atA l n).is, .int .i64 (atA l n).en, .int .i64 (atA l n).far, .slice (some ⟨G, 0, none⟩) (atA l n).tree.length ((atA l n).tree.length + 12)], .int .i64 (atA l n).err]) (by simp [results, Try.f11, go_sem, q0, q1, q2, q3]) rfl ⟨G, _, _, rfl, hsc, HGw.out, (Keeps.set_new M.out.kp hq (Nat.le_refl _)).drew⟩
end Go.Proofs.Ytebgleehmgmfbaa
