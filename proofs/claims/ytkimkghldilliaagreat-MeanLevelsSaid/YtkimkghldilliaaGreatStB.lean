/-
  The store: what is read of it.
-/
import Derived.Test.YtkimkghldilliaaGreatSt
import Derived.Deep.DeepCutAuto
import Derived.Deep.CutBlock
namespace Go.Proofs.YtkimkghldilliaaGreat
open Go.RowKit

set_option maxHeartbeats 1000000 in
theorem seed_copied (en lev : Int) (v : Value) (t : List Tw) (w : World) (ht : TwIn w v t) (hl : t.length ≤ 1000000) :
    Calls Tryz.prog 103 #[.agg #[.int .i64 en, .int .i64 lev, v]] w fun e w' => ∃ v', e = .returned (.agg #[.int .i64 en, .int .i64 lev, v']) ∧ TwIn w' v' t ∧ Below w.heap.size w w' := by
  have HT := Lib.hid ht
  obtain ⟨ao, cap, rfl⟩ := ht.1.val
  clear ht
  go_enter Tryz.func103, Tryz.ntmps103
  go_upto_region 1 with (fail)
  refine gen_world (S := fun u => Below w.heap.size w u ∧ u.heap[w.heap.size]? = some (.cells #[.int .i64 en, .int .i64 lev, .slice ao t.length cap] 136 (0, 0)) ∧ u.heap[w.heap.size + 1]? = some (.cells #[.int .i64 0, .int .i64 0, .slice none 0 0] 136 (0, 0))) (two_new w _ _) (fun u hu => ?_)
  obtain ⟨hb, h1, h2⟩ := hu
  obtain ⟨c0, c1, c2, f0, f1, f2⟩ := three_box h1
  have HTu := Lib.hid (HT.out.later hb)
  have Hb := Lib.hid hb
  have H1 := Lib.hid h1
  have H2 := Lib.hid h2
  obtain ⟨x, hx⟩ : ∃ x, x = w.heap.size := ⟨_, rfl⟩
  rw [← hx] at c0 c1 c2 f0 f1 f2 H1 H2 ⊢
  have Hx := Lib.hid hx
  clear h1 h2 hb hx HT
  go_wp2_with fail
  refine (tw_clone _ t _ HTu.out hl).mono ?_
  rintro e w3 ⟨v', rfl, hT', hb3⟩
  obtain ⟨ao', cap', rfl⟩ := hT'.1.val
  have h1 := (hb3.block _ (lt_of_block H1.out)).trans H1.out
  have h2 := (hb3.block _ (lt_of_block H2.out)).trans H2.out
  have HT3 := Lib.hid hT'
  have Hb3 := Lib.hid hb3
  clear c0 c1 c2 f0 f1 f2 HTu H1 H2 hT' hb3
  obtain ⟨c0, c1, c2, f0, f1, f2⟩ := three_box h1
  obtain ⟨d0, d1, d2, e0, e1, e2⟩ := three_box h2
  have H1 := Lib.hid h1
  have H2 := Lib.hid h2
  clear h1 h2
  go_wp2
  have a1 := block_setCell' (k := 2) (u := .slice ao' t.length cap') H1.out
  have b0 : (w3.setCell ⟨x, 2, none⟩ (.slice ao' t.length cap')).heap[x + 1]? = some (.cells #[.int .i64 0, .int .i64 0, .slice none 0 0] 136 (0, 0)) := (Below.heap_setCell _ _ _ _ (by simp)).trans H2.out
  have b1 := block_setCell' (k := 0) (u := .int .i64 en) b0
  have b2 := block_setCell' (k := 1) (u := .int .i64 lev) b1
  have b3 := block_setCell' (k := 2) (u := .slice ao' t.length cap') b2
  obtain ⟨q0, q1, q2, -, -, -⟩ := three_box (u := .int .i64 en) (v := .int .i64 lev) (x := .slice ao' t.length cap') b3
  have hk : KeepT 0 [136] false w3 _ := KeepT.setCell (KeepT.setCell (KeepT.setCell (KeepT.setCell (Keeps.refl _ w3) (p := ⟨x, 2, none⟩) H1.out (by simp) (by simp) (Nat.zero_le _) (.slice ao' t.length cap')) (p := ⟨x + 1, 0, none⟩) b0 (by simp) (by simp) (Nat.zero_le _) (.int .i64 en)) (p := ⟨x + 1, 1, none⟩) b1 (by simp) (by simp) (Nat.zero_le _) (.int .i64 lev)) (p := ⟨x + 1, 2, none⟩) b2 (by simp) (by simp) (Nat.zero_le _) (.slice ao' t.length cap')
  have hb := ((((Hb.out.trans (Hb3.out.mono Hb.out.size)).setCell (p := ⟨x, 2, none⟩) (Nat.le_of_eq Hx.out.symm) (.slice ao' t.length cap')).setCell (p := ⟨x + 1, 0, none⟩) (by have := Hx.out; show w.heap.size ≤ x + 1; omega) (.int .i64 en)).setCell (p := ⟨x + 1, 1, none⟩) (by have := Hx.out; show w.heap.size ≤ x + 1; omega) (.int .i64 lev)).setCell (p := ⟨x + 1, 2, none⟩) (by have := Hx.out; show w.heap.size ≤ x + 1; omega) (.slice ao' t.length cap')
  exact bodyPost_ret (v := .agg #[.int .i64 en, .int .i64 lev, .slice ao' t.length cap']) (by simp [results, Tryz.f103, go_sem, q0, q1, q2]) rfl ⟨_, rfl, HT3.out.keepT hk (by simp), hb⟩

set_option maxHeartbeats 2000000 in
theorem st_gives {base s m : Nat} {sv : Value} {F : Live} {p : Pr} {f : Fd} (lev : Int) (w : World) (h : StIs base w s m sv F) (hm : (p, f) ∈ F) (hl : f.tree.length ≤ 1000000) (hg : f.is = true ∧ f.lev ≤ lev) :
    Calls Tryz.prog 158 #[.pointer (some ⟨s, 0, none⟩), .int .i64 p.1, .int .i64 p.2, .int .i64 lev] w fun e w' => (∃ v', e = .returned (.tuple #[.agg #[.int .i64 f.en, .int .i64 f.lev, v'], .int .i64 3]) ∧ TwIn w' v' f.tree) ∧ Below w.heap.size w w' := by
  have H := Lib.hid h
  have HT := Lib.hid (h.trees _ hm)
  have hap : (F.map fun x => (x.1, fdv x.2)).Pairwise fun a b => a.1 ≠ b.1 := by rw [List.pairwise_map]; exact h.apart
  have hwf : ∀ x ∈ (F.map fun x => (x.1, fdv x.2)), W64 x.1 := by
    intro x hx
    obtain ⟨y, hy, rfl⟩ := List.mem_map.1 hx
    exact h.wf y hy
  have hlk := fun (wq : World) (hq : StIs base wq s m sv F) => map_hit (w := wq) hq.map hwf (List.mem_map.2 ⟨_, hm, rfl⟩) hap true
  have Hlk := Lib.hid hlk
  obtain ⟨ao, cap, hv⟩ := (h.trees _ hm).1.val
  clear h hm hap hwf hlk
  obtain ⟨is, en, fl, tr, v⟩ := f
  simp only at hv hl HT hg ⊢
  subst hv
  unfold fdv pkv at Hlk
  simp only at Hlk
  have hg2 : (is && decide (fl ≤ lev)) = true := by simpa using hg
  clear hg
  go_enter Tryz.func158, Tryz.ntmps158
  go_upto_region 1 with (fail)
  refine gen_world (S := fun u => Below w.heap.size w u ∧ u.heap[w.heap.size]? = some (.cells #[.int .i64 0, .int .i64 0, .slice none 0 0] 136 (0, 0))) (one_new w _) (fun u hu => ?_)
  obtain ⟨hb, h1⟩ := hu
  have Hu := Lib.hid (H.out.later hb)
  obtain ⟨c0, c1, -, -⟩ := Hu.out.cells
  have hlk := Hlk.out u Hu.out
  have HTu := Lib.hid (HT.out.later hb)
  obtain ⟨d0, d1, d2, e0, e1, e2⟩ := three_box h1
  have Hb := Lib.hid hb
  have H1 := Lib.hid h1
  obtain ⟨x, hx⟩ : ∃ x, x = w.heap.size := ⟨_, rfl⟩
  rw [← hx] at d0 d1 d2 e0 e1 e2 H1 ⊢
  have Hx := Lib.hid hx
  clear h1 hb hx HT H Hlk
  go_wp2_with (go_at_call 96; refine (st_made _ Hu.out).mono ?_; rintro e w' ⟨rfl, rfl⟩)
  refine (fd_gives ⟨is, en, fl, tr, .slice ao tr.length cap⟩ lev _).mono ?_
  simp only [hg2]
  rintro e w2 ⟨rfl, hb2⟩
  obtain ⟨hb1, ha1⟩ := one_new u (.cells #[.bool is, .int .i64 en, .int .i64 fl, .slice ao tr.length cap] 177 (0, 0))
  have hb12 := hb1.trans (hb2.mono hb1.size)
  have hz2 := (hb2.block _ (lt_of_block ha1)).trans ha1
  have hx2 := (hb12.block _ (lt_of_block H1.out)).trans H1.out
  have HT2 := Lib.hid (HTu.out.later hb12)
  have Hb2 := Lib.hid (Hb.out.trans (hb12.mono Hb.out.size))
  have Hz2 := Lib.hid hz2
  have Hx2 := Lib.hid hx2
  obtain ⟨z, hz⟩ : ∃ z, z = u.heap.size := ⟨_, rfl⟩
  rw [← hz] at hz2 Hz2 ⊢
  clear c0 c1 hlk d0 d1 d2 e0 e1 e2 hb1 ha1 hb2 hb12 hz HTu Hu H1
  obtain ⟨d0, d1, d2, e0, e1, e2⟩ := three_box hx2
  have z0 := (block_cell' hz2 0).1
  have z1 := (block_cell' hz2 1).1
  have z2 := (block_cell' hz2 2).1
  have z3 := (block_cell' hz2 3).1
  simp at z0 z1 z2 z3
  clear hx2 hz2
  go_wp2_with fail
  refine (seed_copied en fl _ tr w2 HT2.out hl).mono ?_
  rintro e w3 ⟨v', rfl, hT', hb3⟩
  obtain ⟨ao', cap', rfl⟩ := hT'.1.val
  have hx3 := (hb3.block _ (lt_of_block Hx2.out)).trans Hx2.out
  have HT3 := Lib.hid hT'
  have Hb3 := Lib.hid hb3
  have Hx3 := Lib.hid hx3
  clear d0 d1 d2 e0 e1 e2 z0 z1 z2 z3 hT' hb3 HT2 Hz2 Hx2
  obtain ⟨d0, d1, d2, e0, e1, e2⟩ := three_box hx3
  clear hx3
  go_wp2
  have b1 := block_setCell' (k := 0) (u := .int .i64 en) Hx3.out
  have b2 := block_setCell' (k := 1) (u := .int .i64 fl) b1
  have b3 := block_setCell' (k := 2) (u := .slice ao' tr.length cap') b2
  obtain ⟨q0, q1, q2, -, -, -⟩ := three_box (u := .int .i64 en) (v := .int .i64 fl) (x := .slice ao' tr.length cap') b3
  have hk : KeepT 0 [136] false w3 _ := KeepT.setCell (KeepT.setCell (KeepT.setCell (Keeps.refl _ w3) (p := ⟨x, 0, none⟩) Hx3.out (by simp) (by simp) (Nat.zero_le _) (.int .i64 en)) (p := ⟨x, 1, none⟩) b1 (by simp) (by simp) (Nat.zero_le _) (.int .i64 fl)) (p := ⟨x, 2, none⟩) b2 (by simp) (by simp) (Nat.zero_le _) (.slice ao' tr.length cap')
  have hb := (((Hb2.out.trans (Hb3.out.mono Hb2.out.size)).setCell (p := ⟨x, 0, none⟩) (Nat.le_of_eq Hx.out.symm) (.int .i64 en)).setCell (p := ⟨x, 1, none⟩) (Nat.le_of_eq Hx.out.symm) (.int .i64 fl)).setCell (p := ⟨x, 2, none⟩) (Nat.le_of_eq Hx.out.symm) (.slice ao' tr.length cap')
  exact bodyPost_ret (v := .tuple #[.agg #[.int .i64 en, .int .i64 fl, .slice ao' tr.length cap'], .int .i64 3]) (by simp [results, Tryz.f158, go_sem, q0, q1, q2]) rfl ⟨⟨_, rfl, HT3.out.keepT hk (by simp)⟩, hb⟩
set_option maxHeartbeats 2000000 in
theorem st_fails {base s m : Nat} {sv : Value} {F : Live} {p : Pr} {f : Fd} (lev : Int) (w : World) (h : StIs base w s m sv F) (hm : (p, f) ∈ F) (hl : f.tree.length ≤ 1000000) (hg : ¬ (f.is = true ∧ f.lev ≤ lev)) :
    Calls Tryz.prog 158 #[.pointer (some ⟨s, 0, none⟩), .int .i64 p.1, .int .i64 p.2, .int .i64 lev] w fun e w' => e = .returned (.tuple #[.agg #[.int .i64 0, .int .i64 0, .slice none 0 0], .int .i64 2]) ∧ Below w.heap.size w w' := by
  have H := Lib.hid h
  have HT := Lib.hid (h.trees _ hm)
  have hap : (F.map fun x => (x.1, fdv x.2)).Pairwise fun a b => a.1 ≠ b.1 := by rw [List.pairwise_map]; exact h.apart
  have hwf : ∀ x ∈ (F.map fun x => (x.1, fdv x.2)), W64 x.1 := by
    intro x hx
    obtain ⟨y, hy, rfl⟩ := List.mem_map.1 hx
    exact h.wf y hy
  have hlk := fun (wq : World) (hq : StIs base wq s m sv F) => map_hit (w := wq) hq.map hwf (List.mem_map.2 ⟨_, hm, rfl⟩) hap true
  have Hlk := Lib.hid hlk
  obtain ⟨ao, cap, hv⟩ := (h.trees _ hm).1.val
  clear h hm hap hwf hlk
  obtain ⟨is, en, fl, tr, v⟩ := f
  simp only at hv hl HT hg ⊢
  subst hv
  unfold fdv pkv at Hlk
  simp only at Hlk
  go_enter Tryz.func158, Tryz.ntmps158
  go_upto_region 1 with (fail)
  refine gen_world (S := fun u => Below w.heap.size w u ∧ u.heap[w.heap.size]? = some (.cells #[.int .i64 0, .int .i64 0, .slice none 0 0] 136 (0, 0))) (one_new w _) (fun u hu => ?_)
  obtain ⟨hb, h1⟩ := hu
  have Hu := Lib.hid (H.out.later hb)
  obtain ⟨c0, c1, -, -⟩ := Hu.out.cells
  have hlk := Hlk.out u Hu.out
  have HTu := Lib.hid (HT.out.later hb)
  obtain ⟨d0, d1, d2, e0, e1, e2⟩ := three_box h1
  have Hb := Lib.hid hb
  have H1 := Lib.hid h1
  obtain ⟨x, hx⟩ : ∃ x, x = w.heap.size := ⟨_, rfl⟩
  rw [← hx] at d0 d1 d2 e0 e1 e2 H1 ⊢
  have Hx := Lib.hid hx
  clear h1 hb hx HT H Hlk
  go_wp2_with (go_at_call 96; refine (st_made _ Hu.out).mono ?_; rintro e w' ⟨rfl, rfl⟩)
  refine (fd_gives ⟨is, en, fl, tr, .slice ao tr.length cap⟩ lev _).mono ?_
  rintro e w2 ⟨rfl, hb2⟩
  obtain ⟨hb1, ha1⟩ := one_new u (.cells #[.bool is, .int .i64 en, .int .i64 fl, .slice ao tr.length cap] 177 (0, 0))
  have hb12 := hb1.trans (hb2.mono hb1.size)
  have hz2 := (hb2.block _ (lt_of_block ha1)).trans ha1
  have hx2 := (hb12.block _ (lt_of_block H1.out)).trans H1.out
  have HT2 := Lib.hid (HTu.out.later hb12)
  have Hb2 := Lib.hid (Hb.out.trans (hb12.mono Hb.out.size))
  have Hz2 := Lib.hid hz2
  have Hx2 := Lib.hid hx2
  obtain ⟨z, hz⟩ : ∃ z, z = u.heap.size := ⟨_, rfl⟩
  rw [← hz] at hz2 Hz2 ⊢
  clear c0 c1 hlk d0 d1 d2 e0 e1 e2 hb1 ha1 hb2 hb12 hz HTu Hu H1
  obtain ⟨d0, d1, d2, e0, e1, e2⟩ := three_box hx2
  have z0 := (block_cell' hz2 0).1
  have z1 := (block_cell' hz2 1).1
  have z2 := (block_cell' hz2 2).1
  have z3 := (block_cell' hz2 3).1
  simp at z0 z1 z2 z3
  clear hx2 hz2
  have hg2 : (is && decide (fl ≤ lev)) = false := by
    cases is
    · rfl
    · simp at hg ⊢; omega
  simp only [hg2]
  clear hg hg2
  go_wp2
  have b1 := block_setCell' (k := 0) (u := .int .i64 0) Hx2.out
  have b2 := block_setCell' (k := 1) (u := .int .i64 0) b1
  have b3 := block_setCell' (k := 2) (u := .slice none 0 0) b2
  obtain ⟨q0, q1, q2, -, -, -⟩ := three_box (u := .int .i64 0) (v := .int .i64 0) (x := .slice none 0 0) b3
  have hb := ((Hb2.out.setCell (p := ⟨x, 0, none⟩) (Nat.le_of_eq Hx.out.symm) (.int .i64 0)).setCell (p := ⟨x, 1, none⟩) (Nat.le_of_eq Hx.out.symm) (.int .i64 0)).setCell (p := ⟨x, 2, none⟩) (Nat.le_of_eq Hx.out.symm) (.slice none 0 0)
  exact bodyPost_ret (v := .tuple #[.agg #[.int .i64 0, .int .i64 0, .slice none 0 0], .int .i64 2]) (by simp [results, Tryz.f158, go_sem, q0, q1, q2]) rfl ⟨rfl, hb⟩
end Go.Proofs.YtkimkghldilliaaGreat
