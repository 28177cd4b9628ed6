import Derived.Test.YtpchjpmkkiopiaaGreatMeDm
namespace Go.Proofs.YtpchjpmkkiopiaaGreat
open Go.RowKit Go.Lib

theorem keepX_mem [Watch] {base em p : Nat} {w : World} {cs : Array Value} {fr : Nat × Nat} (hp : w.heap[p]? = some (.cells cs 74 fr)) (hb : base ≤ p) (hw : ¬ Watch.W p) (hne : p ≠ em) (i : Nat) (u : Value) : KeepX base em w (w.setCell ⟨p, i, none⟩ u) :=
  Keeps.mono ((Keeps.refl (fun k => k = p) w).setCell (p := ⟨p, i, none⟩) rfl u) fun k _ e => by
    subst e
    exact ⟨⟨⟨hb, hw⟩, by rw [hp]; simp⟩, hne⟩
theorem join_close [Watch] {base : Nat} {p q nm km em : Nat} {next room peak : Int} {L : List Rec} {k : Ky} {w u2 u4 u6 : World} (h : LnIs base w p q nm km em next room peak L) (hn : fndK L k = none) (hkk : kyOk k) (hnx : next < 100000)
    (hq : @Qu (inw nm km em) base u2 q (next + 1) (L.map enR ++ [⟨k.place, next, next⟩])) (hk : @KeepQ (inw nm km em) base q w u2)
    (hm4 : MapV kyK u4 nm (L.length + 1) (setV (setV (fun k => (fndK L k).map fun r => Value.int .i64 r.n) k (some (.int .i64 0))) k (some (.int .i64 next)))) (hk4 : Keeps (· = nm) u2 u4)
    (hm6 : MapV intK u6 km (L.length + 1) (setV (setV (fun n => (fndN L n).map fun r => kyv r.k) next (some (.agg #[.int .i64 0, .int .i64 0, .int .i64 0]))) next (some (kyv k)))) (hk6 : Keeps (· = km) u4 u6) (x : Ent) :
    LnIs base (u6.setCell ⟨p, 3, none⟩ (.int .i64 (next + 1))) p q nm km em (next + 1) room peak (L ++ [⟨k, next, x⟩]) ∧ KeepX base em w (u6.setCell ⟨p, 3, none⟩ (.int .i64 (next + 1))) := by
  obtain ⟨n1, n2, n3, n4⟩ := h.n_q
  obtain ⟨b2, e2, f2, x2⟩ := h.afterQ hk
  obtain ⟨cs, hqb⟩ := @Qu.qblk (inw nm km em) _ _ _ _ _ hq
  have hpq : p ≠ q := fun e => by rw [e, hqb] at b2; simp at b2
  have hx4 : KeepX base em u2 u4 := keepX_map hk4 h.bn h.wn e2.blk h.n13
  have f4 := f2.keeps hk4 (fun e => h.n12 e.symm)
  have hx6 : KeepX base em u4 u6 := keepX_map hk6 h.bk h.wk f4.blk h.n23
  have b6 := hk6.obj (hk4.obj b2 (fun e => n3 e.symm)) (fun e => n4 e.symm)
  have hk7 := (Keeps.refl (fun k => k = p) u6).setCell (p := ⟨p, 3, none⟩) rfl (.int .i64 (next + 1))
  have hX := ((x2.trans hx4).trans hx6).trans (keepX_mem b6 h.bp h.wp h.pe 3 (.int .i64 (next + 1)))
  have q4 := @Qu.keepsW (inw nm km em) _ _ _ _ _ _ _ hq hk4 (fun k e => by subst e; exact ⟨n1, .inl (.inr (.inl rfl))⟩)
  have q6 := @Qu.keepsW (inw nm km em) _ _ _ _ _ _ _ q4 hk6 (fun k e => by subst e; exact ⟨n2, .inl (.inr (.inr (.inl rfl)))⟩)
  have q7 := @Qu.keepsW (inw nm km em) _ _ _ _ _ _ _ q6 hk7 (fun k e => by subst e; exact ⟨hpq, .inr ⟨_, _, _, b6, by decide, by decide⟩⟩)
  have m6 := (hm4.keeps hk6 (fun e => h.n12 e)).keeps hk7 (fun e => n3 e)
  have m7 := hm6.keeps hk7 (fun e => n4 e)
  have hfn : ∀ a ∈ L, a.n ≠ next := fun a ha => by have := (h.ord.lt a ha).2; omega
  refine ⟨{ h with blk := block_setCell' (k := 3) (u := .int .i64 (next + 1)) b6, qu := by rw [List.map_append]; exact q7, names := ?_, keys := ?_, ord := h.ord.add x hn hkk h.n0, n0 := by have := h.n0; omega, nle := by omega, le := by have := h.le; simp; omega, lim := Nat.le_trans h.lim hX.size }, hX⟩
  · rw [List.length_append]
    refine m6.ext (fun k' _ => ?_)
    rw [fndK_add (r := ⟨k, next, x⟩) hn]
    by_cases e : k' = k
    · rw [if_pos e, e, setV_same]; rfl
    · rw [if_neg e, setV_other _ _ e, setV_other _ _ e]
  · rw [List.length_append]
    refine m7.ext (fun n' _ => ?_)
    rw [fndN_add (r := ⟨k, next, x⟩) hfn]
    by_cases e : n' = next
    · rw [if_pos e, e, setV_same]; rfl
    · rw [if_neg e, setV_other _ _ e, setV_other _ _ e]
set_option maxRecDepth 100000 in
set_option maxHeartbeats 4000000 in
theorem join_any [Watch] {base : Nat} {p q nm km em : Nat} {next room peak : Int} {L : List Rec} {k : Ky} (w : World) (h : LnIs base w p q nm km em next room peak L) (hn : fndK L k = none) (hkk : kyOk k) (hnx : next < 100000) :
    Calls Tryz.prog 34 #[.pointer (some ⟨p, 0, none⟩), kyv k] w fun e w' => e = .returned (.tuple #[]) ∧ (∀ x, LnIs base w' p q nm km em (next + 1) room peak (L ++ [⟨k, next, x⟩])) ∧ KeepX base em w w' := by
  have H := Lib.hid h
  have HN := Lib.hid hn
  have HOk := Lib.hid hkk
  have HNx := Lib.hid hnx
  have HWn := Lib.hid (show W64 next from w64_small (by have := h.n0; omega) (by omega))
  clear h hn hkk
  go_enter Tryz.func34, Tryz.ntmps34
  go_upto_region 1 with (fail)
  refine gen_world (S := fun u => Below w.heap.size w u ∧ u.heap[w.heap.size]? = some (.cells #[.int .i64 k.rule, .int .i64 k.level, .int .i64 k.place] 24 (0, 0))) (one_new w _) (fun u hu => ?_)
  obtain ⟨hb, hx⟩ := hu
  obtain ⟨X, hX⟩ : ∃ X, X = w.heap.size := ⟨_, rfl⟩
  have HXe := Lib.hid hX
  rw [← hX] at hx ⊢
  have HB := Lib.hid hb
  have HX := Lib.hid hx
  have Hu := Lib.hid (H.out.later hb)
  clear hX hb hx
  refine wp_region_held_drew (S := fun v => v.heap[p]? = some (.cells #[.pointer (some ⟨q, 0, none⟩), .map (some nm), .map (some km), .int .i64 (next), .int .i64 room, .int .i64 (peak), .map (some em)] 74 (0, 0)) ∧ v.heap[X]? = some (.cells #[.int .i64 k.rule, .int .i64 k.level, .int .i64 k.place] 24 (0, 0))) (by kernel_rfl) ⟨Hu.out.blk, HX.out⟩ (fun hS => ?_)
  refine wpAnyH_take (i := 0) (oi := ⟨_, _, _, _, _, _⟩) (v := ?v1) rfl (by kernel_rfl) (by kernel_rfl) (by kernel_rfl) (fun _ _ _ h => h) ?y1 hS ?_
  case y1 => first | (refine Or.inr ⟨by rfl, ?_⟩; with_reducible rfl) | (refine Or.inl ⟨by rfl, ?_⟩; intro wS hSw; obtain ⟨⟨a0, a1, a2, a3, -⟩, -⟩ := seven_box hSw.1; obtain ⟨b0, b1, b2, -⟩ := three_box hSw.2; go_simp; try with_reducible rfl)
  simp only [Act.put, List.setIfInBounds_toArray, List.set_cons_zero, List.set_cons_succ]
  refine wpAnyH_take (i := 1) (oi := ⟨_, _, _, _, _, _⟩) (v := ?v2) rfl (by kernel_rfl) (by kernel_rfl) (by kernel_rfl) (fun _ _ _ h => h) ?y2 hS ?_
  case y2 => first | (refine Or.inr ⟨by rfl, ?_⟩; with_reducible rfl) | (refine Or.inl ⟨by rfl, ?_⟩; intro wS hSw; obtain ⟨⟨a0, a1, a2, a3, -⟩, -⟩ := seven_box hSw.1; obtain ⟨b0, b1, b2, -⟩ := three_box hSw.2; go_simp; try with_reducible rfl)
  simp only [Act.put, List.setIfInBounds_toArray, List.set_cons_zero, List.set_cons_succ]
  refine wpAnyH_take (i := 2) (oi := ⟨_, _, _, _, _, _⟩) (v := ?v3) rfl (by kernel_rfl) (by kernel_rfl) (by kernel_rfl) (fun _ _ _ h => h) ?y3 hS ?_
  case y3 => first | (refine Or.inr ⟨by rfl, ?_⟩; with_reducible rfl) | (refine Or.inl ⟨by rfl, ?_⟩; intro wS hSw; obtain ⟨⟨a0, a1, a2, a3, -⟩, -⟩ := seven_box hSw.1; obtain ⟨b0, b1, b2, -⟩ := three_box hSw.2; go_simp; try with_reducible rfl)
  simp only [Act.put, List.setIfInBounds_toArray, List.set_cons_zero, List.set_cons_succ]
  refine wpAnyH_take (i := 3) (oi := ⟨_, _, _, _, _, _⟩) (v := ?v4) rfl (by kernel_rfl) (by kernel_rfl) (by kernel_rfl) (fun _ _ _ h => h) ?y4 hS ?_
  case y4 => first | (refine Or.inr ⟨by rfl, ?_⟩; with_reducible rfl) | (refine Or.inl ⟨by rfl, ?_⟩; intro wS hSw; obtain ⟨⟨a0, a1, a2, a3, -⟩, -⟩ := seven_box hSw.1; obtain ⟨b0, b1, b2, -⟩ := three_box hSw.2; go_simp; try with_reducible rfl)
  simp only [Act.put, List.setIfInBounds_toArray, List.set_cons_zero, List.set_cons_succ]
  refine wpAnyH_take (i := 4) (oi := ⟨_, _, _, _, _, _⟩) (v := ?v5) rfl (by kernel_rfl) (by kernel_rfl) (by kernel_rfl) (fun _ _ _ h => h) ?y5 hS ?_
  case y5 => first | (refine Or.inr ⟨by rfl, ?_⟩; with_reducible rfl) | (refine Or.inl ⟨by rfl, ?_⟩; intro wS hSw; obtain ⟨⟨a0, a1, a2, a3, -⟩, -⟩ := seven_box hSw.1; obtain ⟨b0, b1, b2, -⟩ := three_box hSw.2; go_simp; try with_reducible rfl)
  simp only [Act.put, List.setIfInBounds_toArray, List.set_cons_zero, List.set_cons_succ]
  refine wpAnyH_take (i := 5) (oi := ⟨_, _, _, _, _, _⟩) (v := ?v6) rfl (by kernel_rfl) (by kernel_rfl) (by kernel_rfl) (fun _ _ _ h => h) ?y6 hS ?_
  case y6 => first | (refine Or.inr ⟨by rfl, ?_⟩; with_reducible rfl) | (refine Or.inl ⟨by rfl, ?_⟩; intro wS hSw; obtain ⟨⟨a0, a1, a2, a3, -⟩, -⟩ := seven_box hSw.1; obtain ⟨b0, b1, b2, -⟩ := three_box hSw.2; go_simp; try with_reducible rfl)
  simp only [Act.put, List.setIfInBounds_toArray, List.set_cons_zero, List.set_cons_succ]
  refine wpAnyH_take (i := 6) (oi := ⟨_, _, _, _, _, _⟩) (v := ?v7) rfl (by kernel_rfl) (by kernel_rfl) (by kernel_rfl) (fun _ _ _ h => h) ?y7 hS ?_
  case y7 => first | (refine Or.inr ⟨by rfl, ?_⟩; with_reducible rfl) | (refine Or.inl ⟨by rfl, ?_⟩; intro wS hSw; obtain ⟨⟨a0, a1, a2, a3, -⟩, -⟩ := seven_box hSw.1; obtain ⟨b0, b1, b2, -⟩ := three_box hSw.2; go_simp; try with_reducible rfl)
  simp only [Act.put, List.setIfInBounds_toArray, List.set_cons_zero, List.set_cons_succ]
  refine wpAnyH_take (i := 7) (oi := ⟨_, _, _, _, _, _⟩) (v := ?v8) rfl (by kernel_rfl) (by kernel_rfl) (by kernel_rfl) (fun _ _ _ h => h) ?y8 hS ?_
  case y8 => first | (refine Or.inr ⟨by rfl, ?_⟩; with_reducible rfl) | (refine Or.inl ⟨by rfl, ?_⟩; intro wS hSw; obtain ⟨⟨a0, a1, a2, a3, -⟩, -⟩ := seven_box hSw.1; obtain ⟨b0, b1, b2, -⟩ := three_box hSw.2; go_simp; try with_reducible rfl)
  simp only [Act.put, List.setIfInBounds_toArray, List.set_cons_zero, List.set_cons_succ]
  refine wpAnyH_take (i := 8) (oi := ⟨_, _, _, _, _, _⟩) (v := ?v9) rfl (by kernel_rfl) (by kernel_rfl) (by kernel_rfl) (fun _ _ _ h => h) ?y9 hS ?_
  case y9 => first | (refine Or.inr ⟨by rfl, ?_⟩; with_reducible rfl) | (refine Or.inl ⟨by rfl, ?_⟩; intro wS hSw; obtain ⟨⟨a0, a1, a2, a3, -⟩, -⟩ := seven_box hSw.1; obtain ⟨b0, b1, b2, -⟩ := three_box hSw.2; go_simp; try with_reducible rfl)
  simp only [Act.put, List.setIfInBounds_toArray, List.set_cons_zero, List.set_cons_succ]
  refine wpAnyH_take (i := 9) (oi := ⟨_, _, _, _, _, _⟩) (v := ?v10) rfl (by kernel_rfl) (by kernel_rfl) (by kernel_rfl) (fun _ _ _ h => h) ?y10 hS ?_
  case y10 => first | (refine Or.inr ⟨by rfl, ?_⟩; with_reducible rfl) | (refine Or.inl ⟨by rfl, ?_⟩; intro wS hSw; obtain ⟨⟨a0, a1, a2, a3, -⟩, -⟩ := seven_box hSw.1; obtain ⟨b0, b1, b2, -⟩ := three_box hSw.2; go_simp; try with_reducible rfl)
  simp only [Act.put, List.setIfInBounds_toArray, List.set_cons_zero, List.set_cons_succ]
  refine wpAnyH_take (i := 10) (oi := ⟨_, _, _, _, _, _⟩) (v := ?v11) rfl (by kernel_rfl) (by kernel_rfl) (by kernel_rfl) (fun _ _ _ h => h) ?y11 hS ?_
  case y11 => first | (refine Or.inr ⟨by rfl, ?_⟩; with_reducible rfl) | (refine Or.inl ⟨by rfl, ?_⟩; intro wS hSw; obtain ⟨⟨a0, a1, a2, a3, -⟩, -⟩ := seven_box hSw.1; obtain ⟨b0, b1, b2, -⟩ := three_box hSw.2; go_simp; try with_reducible rfl)
  simp only [Act.put, List.setIfInBounds_toArray, List.set_cons_zero, List.set_cons_succ]
  refine wpAnyH_ready (rs := [11]) (by kernel_rfl) (by simp) ?_
  refine AllReadyH.cons (o := ⟨_, _, _, _, _, _⟩) rfl (fun K hK => ?_) AllReadyH.nil
  have hdr := (Below.refl u.heap.size u).drew
  have hnw := one_new u.drew (.cells #[.int .i64 k.place, .int .i64 next] 118 (0, 0))
  have hS2 := hdr.trans hnw.1
  have hA0 := Hu.out.later hS2
  go_simp
  refine hK.out _ _ ⟨hA0.blk, (hS2.block _ (lt_of_block HX.out)).trans HX.out⟩ (fun hSd => ?_)
  clear hSd hK K
  try simp only [Act.put, List.setIfInBounds_toArray, List.set_cons_zero, List.set_cons_succ]
  refine wpAnyH_ready (rs := [12]) (by kernel_rfl) (by simp) ?_
  refine AllReadyH.cons (o := ⟨_, _, _, _, _, _⟩) rfl (fun K hK => ?_) AllReadyH.nil
  go_simp
  refine (@quPut1 (inw nm km em) _ _ _ _ k.place next _ _ hA0.qu hnw.2 HWn.out (by have := H.out.le; have := HNx.out; simp; omega) (by have := HNx.out; omega) (by rw [hasN_map, fndN_no (fun a ha => by have := (H.out.ord.lt a ha).2; omega)]; rfl)).mono ?_
  rintro e u2 ⟨rfl, hq, hk⟩
  have hA := hA0.afterQ hk
  have hX2 := hA.2.2.2.keepM.cells ((hS2.block _ (lt_of_block HX.out)).trans HX.out) (by decide)
  have HH := Lib.hid hA0
  have HQ := Lib.hid hq
  have HK := Lib.hid hk
  have HX2 := Lib.hid hX2
  have HBd := Lib.hid (HB.out.trans (hS2.mono HB.out.size))
  have HA := Lib.hid hA
  clear hq hk hA hA0 hX2 hnw hdr hS2
  go_wp2_with fail
  refine hK.out _ _ ⟨HA.out.1, HX2.out⟩ (fun hSd => ?_)
  clear hSd hK K
  try simp only [Act.put, List.setIfInBounds_toArray, List.set_cons_zero, List.set_cons_succ]
  refine wpAnyH_done (by kernel_rfl) ?_ _
  clear hS
  obtain ⟨b2, m2, f2, x2⟩ := HA.out
  obtain ⟨n1, n2, n3, n4⟩ := HH.out.n_q
  have hd2 := (Below.refl u2.heap.size u2).drew
  obtain ⟨st, u3, hr3, hm3, hk3⟩ := (m2.later hd2).entryNew Tryz.underlying68 (by have := H.out.le; have := HNx.out; omega) (z := .int .i64 0) (by kernel_rfl) HOk.out (by rw [HN.out]; rfl)
  obtain ⟨u4, hr4, hm4, hk4⟩ := hm3.store Tryz.underlying68 (by have := H.out.le; have := HNx.out; omega) HOk.out (.int .i64 next)
  have hk24 : Keeps (· = nm) u2 u4 := (Keeps.ofNew hd2 _).trans (hk3.trans hk4)
  have hk23 : Keeps (· = nm) u2 u3 := (Keeps.ofNew hd2 _).trans hk3
  have f4 := f2.keeps hk24 (fun e => HH.out.n12 e.symm)
  obtain ⟨st2, u5, hr5, hm5, hk5⟩ := f4.entryNew Tryz.underlying69 (by have := H.out.le; have := HNx.out; omega) (z := .agg #[.int .i64 0, .int .i64 0, .int .i64 0]) (by kernel_rfl) HWn.out (by rw [fndN_no (fun a ha => by have := (H.out.ord.lt a ha).2; omega)]; rfl)
  obtain ⟨u6, hr6, hm6, hk6⟩ := hm5.store Tryz.underlying69 (by have := H.out.le; have := HNx.out; omega) HWn.out (kyv k)
  have hk46 := hk5.trans hk6
  have HE := Lib.hid (fun x => join_close HH.out HN.out HOk.out HNx.out HQ.out HK.out hm4 hk24 hm6 hk46 x)
  have hxm : X ≠ nm := fun e => by obtain ⟨es, ck, h1⟩ := m2.blk; have := HX2.out; rw [e, h1] at this; simp at this
  have hxk : X ≠ km := fun e => by obtain ⟨es, ck, h1⟩ := f2.blk; have := HX2.out; rw [e, h1] at this; simp at this
  have T3 := Lib.hid (And.intro (hk23.obj b2 (fun e => n3 e.symm)) (hk23.obj HX2.out hxm))
  have T4 := Lib.hid (And.intro (hk24.obj b2 (fun e => n3 e.symm)) (hk24.obj HX2.out hxm))
  have T5 := Lib.hid (And.intro (hk5.obj T4.out.1 (fun e => n4 e.symm)) (hk5.obj T4.out.2 hxk))
  have T6 := Lib.hid (And.intro (hk46.obj T4.out.1 (fun e => n4 e.symm)) (hk46.obj T4.out.2 hxk))
  have R3 := Lib.hid hr3
  have R4 := Lib.hid hr4
  have R5 := Lib.hid hr5
  have R6 := Lib.hid hr6
  have HB2 := Lib.hid b2
  clear b2 m2 f2 x2 n1 n2 n3 n4 hd2 hr3 hm3 hk3 hr4 hm4 hk4 hk24 hk23 f4 hr5 hm5 hk5 hr6 hm6 hk6 hk46 hxm hxk HA
  go_upto_region 2 with (fail)
  refine wp_region_held_drew (S := fun v => v.heap[p]? = some (.cells #[.pointer (some ⟨q, 0, none⟩), .map (some nm), .map (some km), .int .i64 (next), .int .i64 room, .int .i64 (peak), .map (some em)] 74 (0, 0)) ∧ v.heap[X]? = some (.cells #[.int .i64 k.rule, .int .i64 k.level, .int .i64 k.place] 24 (0, 0))) (by kernel_rfl) ⟨HB2.out, HX2.out⟩ (fun hS => ?_)
  refine wpAnyH_take (i := 0) (oi := ⟨_, _, _, _, _, _⟩) (v := ?v12) rfl (by kernel_rfl) (by kernel_rfl) (by kernel_rfl) (fun _ _ _ h => h) ?y12 hS ?_
  case y12 => first | (refine Or.inr ⟨by rfl, ?_⟩; with_reducible rfl) | (refine Or.inl ⟨by rfl, ?_⟩; intro wS hSw; obtain ⟨⟨a0, a1, a2, a3, -⟩, -⟩ := seven_box hSw.1; obtain ⟨b0, b1, b2, -⟩ := three_box hSw.2; go_simp; try with_reducible rfl)
  simp only [Act.put, List.setIfInBounds_toArray, List.set_cons_zero, List.set_cons_succ]
  refine wpAnyH_take (i := 1) (oi := ⟨_, _, _, _, _, _⟩) (v := ?v13) rfl (by kernel_rfl) (by kernel_rfl) (by kernel_rfl) (fun _ _ _ h => h) ?y13 hS ?_
  case y13 => first | (refine Or.inr ⟨by rfl, ?_⟩; with_reducible rfl) | (refine Or.inl ⟨by rfl, ?_⟩; intro wS hSw; obtain ⟨⟨a0, a1, a2, a3, -⟩, -⟩ := seven_box hSw.1; obtain ⟨b0, b1, b2, -⟩ := three_box hSw.2; go_simp; try with_reducible rfl)
  simp only [Act.put, List.setIfInBounds_toArray, List.set_cons_zero, List.set_cons_succ]
  refine wpAnyH_take (i := 2) (oi := ⟨_, _, _, _, _, _⟩) (v := ?v14) rfl (by kernel_rfl) (by kernel_rfl) (by kernel_rfl) (fun _ _ _ h => h) ?y14 hS ?_
  case y14 => first | (refine Or.inr ⟨by rfl, ?_⟩; with_reducible rfl) | (refine Or.inl ⟨by rfl, ?_⟩; intro wS hSw; obtain ⟨⟨a0, a1, a2, a3, -⟩, -⟩ := seven_box hSw.1; obtain ⟨b0, b1, b2, -⟩ := three_box hSw.2; go_simp; try with_reducible rfl)
  simp only [Act.put, List.setIfInBounds_toArray, List.set_cons_zero, List.set_cons_succ]
  refine wpAnyH_take (i := 3) (oi := ⟨_, _, _, _, _, _⟩) (v := ?v15) rfl (by kernel_rfl) (by kernel_rfl) (by kernel_rfl) (fun _ _ _ h => h) ?y15 hS ?_
  case y15 => first | (refine Or.inr ⟨by rfl, ?_⟩; with_reducible rfl) | (refine Or.inl ⟨by rfl, ?_⟩; intro wS hSw; obtain ⟨⟨a0, a1, a2, a3, -⟩, -⟩ := seven_box hSw.1; obtain ⟨b0, b1, b2, -⟩ := three_box hSw.2; go_simp; try with_reducible rfl)
  simp only [Act.put, List.setIfInBounds_toArray, List.set_cons_zero, List.set_cons_succ]
  refine wpAnyH_take (i := 4) (oi := ⟨_, _, _, _, _, _⟩) (v := ?v16) rfl (by kernel_rfl) (by kernel_rfl) (by kernel_rfl) (fun _ _ _ h => h) ?y16 hS ?_
  case y16 => first | (refine Or.inr ⟨by rfl, ?_⟩; with_reducible rfl) | (refine Or.inl ⟨by rfl, ?_⟩; intro wS hSw; obtain ⟨⟨a0, a1, a2, a3, -⟩, -⟩ := seven_box hSw.1; obtain ⟨b0, b1, b2, -⟩ := three_box hSw.2; go_simp; try with_reducible rfl)
  simp only [Act.put, List.setIfInBounds_toArray, List.set_cons_zero, List.set_cons_succ]
  refine wpAnyH_take (i := 5) (oi := ⟨_, _, _, _, _, _⟩) (v := ?v17) rfl (by kernel_rfl) (by kernel_rfl) (by kernel_rfl) (fun _ _ _ h => h) ?y17 hS ?_
  case y17 => first | (refine Or.inr ⟨by rfl, ?_⟩; with_reducible rfl) | (refine Or.inl ⟨by rfl, ?_⟩; intro wS hSw; obtain ⟨⟨a0, a1, a2, a3, -⟩, -⟩ := seven_box hSw.1; obtain ⟨b0, b1, b2, -⟩ := three_box hSw.2; go_simp; try with_reducible rfl)
  simp only [Act.put, List.setIfInBounds_toArray, List.set_cons_zero, List.set_cons_succ]
  refine wpAnyH_take (i := 6) (oi := ⟨_, _, _, _, _, _⟩) (v := ?v18) rfl (by kernel_rfl) (by kernel_rfl) (by kernel_rfl) (fun _ _ _ h => h) ?y18 hS ?_
  case y18 => first | (refine Or.inr ⟨by rfl, ?_⟩; with_reducible rfl) | (refine Or.inl ⟨by rfl, ?_⟩; intro wS hSw; obtain ⟨⟨a0, a1, a2, a3, -⟩, -⟩ := seven_box hSw.1; obtain ⟨b0, b1, b2, -⟩ := three_box hSw.2; go_simp; try with_reducible rfl)
  simp only [Act.put, List.setIfInBounds_toArray, List.set_cons_zero, List.set_cons_succ]
  refine wpAnyH_take (i := 7) (oi := ⟨_, _, _, _, _, _⟩) (v := ?v19) rfl (by kernel_rfl) (by kernel_rfl) (by kernel_rfl) (fun _ _ _ h => h) ?y19 hS ?_
  case y19 => first | (refine Or.inr ⟨by rfl, ?_⟩; with_reducible rfl) | (refine Or.inl ⟨by rfl, ?_⟩; intro wS hSw; obtain ⟨⟨a0, a1, a2, a3, -⟩, -⟩ := seven_box hSw.1; obtain ⟨b0, b1, b2, -⟩ := three_box hSw.2; go_simp; try with_reducible rfl)
  simp only [Act.put, List.setIfInBounds_toArray, List.set_cons_zero, List.set_cons_succ]
  refine wpAnyH_take (i := 8) (oi := ⟨_, _, _, _, _, _⟩) (v := ?v20) rfl (by kernel_rfl) (by kernel_rfl) (by kernel_rfl) (fun _ _ _ h => h) ?y20 hS ?_
  case y20 => first | (refine Or.inr ⟨by rfl, ?_⟩; with_reducible rfl) | (refine Or.inl ⟨by rfl, ?_⟩; intro wS hSw; obtain ⟨⟨a0, a1, a2, a3, -⟩, -⟩ := seven_box hSw.1; obtain ⟨b0, b1, b2, -⟩ := three_box hSw.2; go_simp; try with_reducible rfl)
  simp only [Act.put, List.setIfInBounds_toArray, List.set_cons_zero, List.set_cons_succ]
  refine wpAnyH_take (i := 9) (oi := ⟨_, _, _, _, _, _⟩) (v := ?v21) rfl (by kernel_rfl) (by kernel_rfl) (by kernel_rfl) (fun _ _ _ h => h) ?y21 hS ?_
  case y21 => first | (refine Or.inr ⟨by rfl, ?_⟩; with_reducible rfl) | (refine Or.inl ⟨by rfl, ?_⟩; intro wS hSw; obtain ⟨⟨a0, a1, a2, a3, -⟩, -⟩ := seven_box hSw.1; obtain ⟨b0, b1, b2, -⟩ := three_box hSw.2; go_simp; try with_reducible rfl)
  simp only [Act.put, List.setIfInBounds_toArray, List.set_cons_zero, List.set_cons_succ]
  refine wpAnyH_take (i := 10) (oi := ⟨_, _, _, _, _, _⟩) (v := ?v22) rfl (by kernel_rfl) (by kernel_rfl) (by kernel_rfl) (fun _ _ _ h => h) ?y22 hS ?_
  case y22 => first | (refine Or.inr ⟨by rfl, ?_⟩; with_reducible rfl) | (refine Or.inl ⟨by rfl, ?_⟩; intro wS hSw; obtain ⟨⟨a0, a1, a2, a3, -⟩, -⟩ := seven_box hSw.1; obtain ⟨b0, b1, b2, -⟩ := three_box hSw.2; go_simp; try with_reducible rfl)
  simp only [Act.put, List.setIfInBounds_toArray, List.set_cons_zero, List.set_cons_succ]
  refine wpAnyH_take (i := 11) (oi := ⟨_, _, _, _, _, _⟩) (v := ?v23) rfl (by kernel_rfl) (by kernel_rfl) (by kernel_rfl) (fun _ _ _ h => h) ?y23 hS ?_
  case y23 => first | (refine Or.inr ⟨by rfl, ?_⟩; with_reducible rfl) | (refine Or.inl ⟨by rfl, ?_⟩; intro wS hSw; obtain ⟨⟨a0, a1, a2, a3, -⟩, -⟩ := seven_box hSw.1; obtain ⟨b0, b1, b2, -⟩ := three_box hSw.2; go_simp; try with_reducible rfl)
  simp only [Act.put, List.setIfInBounds_toArray, List.set_cons_zero, List.set_cons_succ]
  refine wpAnyH_take (i := 12) (oi := ⟨_, _, _, _, _, _⟩) (v := ?v24) rfl (by kernel_rfl) (by kernel_rfl) (by kernel_rfl) (fun _ _ _ h => h) ?y24 hS ?_
  case y24 => first | (refine Or.inr ⟨by rfl, ?_⟩; with_reducible rfl) | (refine Or.inl ⟨by rfl, ?_⟩; intro wS hSw; obtain ⟨⟨a0, a1, a2, a3, -⟩, -⟩ := seven_box hSw.1; obtain ⟨b0, b1, b2, -⟩ := three_box hSw.2; go_simp; try with_reducible rfl)
  simp only [Act.put, List.setIfInBounds_toArray, List.set_cons_zero, List.set_cons_succ]
  refine wpAnyH_take (i := 13) (oi := ⟨_, _, _, _, _, _⟩) (v := ?v25) rfl (by kernel_rfl) (by kernel_rfl) (by kernel_rfl) (fun _ _ _ h => h) ?y25 hS ?_
  case y25 => first | (refine Or.inr ⟨by rfl, ?_⟩; with_reducible rfl) | (refine Or.inl ⟨by rfl, ?_⟩; intro wS hSw; obtain ⟨⟨a0, a1, a2, a3, -⟩, -⟩ := seven_box hSw.1; obtain ⟨b0, b1, b2, -⟩ := three_box hSw.2; go_simp; try with_reducible rfl)
  simp only [Act.put, List.setIfInBounds_toArray, List.set_cons_zero, List.set_cons_succ]
  refine wpAnyH_take (i := 14) (oi := ⟨_, _, _, _, _, _⟩) (v := ?v26) rfl (by kernel_rfl) (by kernel_rfl) (by kernel_rfl) (fun _ _ _ h => h) ?y26 hS ?_
  case y26 => first | (refine Or.inr ⟨by rfl, ?_⟩; with_reducible rfl) | (refine Or.inl ⟨by rfl, ?_⟩; intro wS hSw; obtain ⟨⟨a0, a1, a2, a3, -⟩, -⟩ := seven_box hSw.1; obtain ⟨b0, b1, b2, -⟩ := three_box hSw.2; go_simp; try with_reducible rfl)
  simp only [Act.put, List.setIfInBounds_toArray, List.set_cons_zero, List.set_cons_succ]
  refine wpAnyH_take (i := 15) (oi := ⟨_, _, _, _, _, _⟩) (v := ?v27) rfl (by kernel_rfl) (by kernel_rfl) (by kernel_rfl) (fun _ _ _ h => h) ?y27 hS ?_
  case y27 => first | (refine Or.inr ⟨by rfl, ?_⟩; with_reducible rfl) | (refine Or.inl ⟨by rfl, ?_⟩; intro wS hSw; obtain ⟨⟨a0, a1, a2, a3, -⟩, -⟩ := seven_box hSw.1; obtain ⟨b0, b1, b2, -⟩ := three_box hSw.2; go_simp; try with_reducible rfl)
  simp only [Act.put, List.setIfInBounds_toArray, List.set_cons_zero, List.set_cons_succ]
  refine wpAnyH_take (i := 16) (oi := ⟨_, _, _, _, _, _⟩) (v := ?v28) rfl (by kernel_rfl) (by kernel_rfl) (by kernel_rfl) (fun _ _ _ h => h) ?y28 hS ?_
  case y28 => first | (refine Or.inr ⟨by rfl, ?_⟩; with_reducible rfl) | (refine Or.inl ⟨by rfl, ?_⟩; intro wS hSw; obtain ⟨⟨a0, a1, a2, a3, -⟩, -⟩ := seven_box hSw.1; obtain ⟨b0, b1, b2, -⟩ := three_box hSw.2; go_simp; try with_reducible rfl)
  simp only [Act.put, List.setIfInBounds_toArray, List.set_cons_zero, List.set_cons_succ]
  refine wpAnyH_take (i := 17) (oi := ⟨_, _, _, _, _, _⟩) (v := ?v29) rfl (by kernel_rfl) (by kernel_rfl) (by kernel_rfl) (fun _ _ _ h => h) ?y29 hS ?_
  case y29 => first | (refine Or.inr ⟨by rfl, ?_⟩; with_reducible rfl) | (refine Or.inl ⟨by rfl, ?_⟩; intro wS hSw; obtain ⟨⟨a0, a1, a2, a3, -⟩, -⟩ := seven_box hSw.1; obtain ⟨b0, b1, b2, -⟩ := three_box hSw.2; go_simp; try with_reducible rfl)
  simp only [Act.put, List.setIfInBounds_toArray, List.set_cons_zero, List.set_cons_succ]
  refine wpAnyH_ready (rs := [18]) (by kernel_rfl) (by simp) ?_
  refine AllReadyH.cons (o := ⟨_, _, _, _, _, _⟩) rfl (fun K hK => ?_) AllReadyH.nil
  have hrun := (show (Instr.mapEntry 68 (.map (some nm)) (.agg #[.int .i64 k.rule, .int .i64 k.level, .int .i64 k.place])).run Tryz.prog u2.drew = .ok (.tuple #[.int .i64 0, .int .i64 st]) u3 from R3.out)
  go_simp
  refine hK.out _ _ T3.out (fun hSd => ?_)
  clear hSd hK K hrun
  try simp only [Act.put, List.setIfInBounds_toArray, List.set_cons_zero, List.set_cons_succ]
  refine wpAnyH_take (i := 19) (oi := ⟨_, _, _, _, _, _⟩) (v := ?v30) rfl (by kernel_rfl) (by kernel_rfl) (by kernel_rfl) (fun _ _ _ h => h) ?y30 T3.out ?_
  case y30 => first | (refine Or.inr ⟨by rfl, ?_⟩; with_reducible rfl) | (refine Or.inl ⟨by rfl, ?_⟩; intro wS hSw; obtain ⟨⟨a0, a1, a2, a3, -⟩, -⟩ := seven_box hSw.1; obtain ⟨b0, b1, b2, -⟩ := three_box hSw.2; go_simp; try with_reducible rfl)
  simp only [Act.put, List.setIfInBounds_toArray, List.set_cons_zero, List.set_cons_succ]
  refine wpAnyH_ready (rs := [20]) (by kernel_rfl) (by simp) ?_
  refine AllReadyH.cons (o := ⟨_, _, _, _, _, _⟩) rfl (fun K hK => ?_) AllReadyH.nil
  have hrun := R4.out
  go_simp
  refine hK.out _ _ T4.out (fun hSd => ?_)
  clear hSd hK K hrun
  try simp only [Act.put, List.setIfInBounds_toArray, List.set_cons_zero, List.set_cons_succ]
  refine wpAnyH_ready (rs := [21]) (by kernel_rfl) (by simp) ?_
  refine AllReadyH.cons (o := ⟨_, _, _, _, _, _⟩) rfl (fun K hK => ?_) AllReadyH.nil
  have hrun := (show (Instr.mapEntry 69 (.map (some km)) (.int .i64 next)).run Tryz.prog u4 = .ok (.tuple #[.agg #[.int .i64 0, .int .i64 0, .int .i64 0], .int .i64 st2]) u5 from R5.out)
  go_simp
  refine hK.out _ _ T5.out (fun hSd => ?_)
  clear hSd hK K hrun
  try simp only [Act.put, List.setIfInBounds_toArray, List.set_cons_zero, List.set_cons_succ]
  refine wpAnyH_take (i := 22) (oi := ⟨_, _, _, _, _, _⟩) (v := ?v31) rfl (by kernel_rfl) (by kernel_rfl) (by kernel_rfl) (fun _ _ _ h => h) ?y31 T5.out ?_
  case y31 => first | (refine Or.inr ⟨by rfl, ?_⟩; with_reducible rfl) | (refine Or.inl ⟨by rfl, ?_⟩; intro wS hSw; obtain ⟨⟨a0, a1, a2, a3, -⟩, -⟩ := seven_box hSw.1; obtain ⟨b0, b1, b2, -⟩ := three_box hSw.2; go_simp; try with_reducible rfl)
  simp only [Act.put, List.setIfInBounds_toArray, List.set_cons_zero, List.set_cons_succ]
  refine wpAnyH_ready (rs := [23]) (by kernel_rfl) (by simp) ?_
  refine AllReadyH.cons (o := ⟨_, _, _, _, _, _⟩) rfl (fun K hK => ?_) AllReadyH.nil
  have hrun := R6.out
  go_simp
  refine hK.out _ _ T6.out (fun hSd => ?_)
  clear hSd hK K hrun
  try simp only [Act.put, List.setIfInBounds_toArray, List.set_cons_zero, List.set_cons_succ]
  refine wpAnyH_done (by kernel_rfl) ?_ _
  clear hS
  obtain ⟨⟨-, -, -, c3, -⟩, ⟨-, -, -, g3, -⟩⟩ := seven_box T6.out.1
  have h0 := H.out.n0
  have hnx := HNx.out
  go_wp2
  go_end0
  exact ⟨rfl, fun x => (HE.out x).1, KeepX.trans (Keeps.ofNew HBd.out _) (HE.out ⟨false, 0, 0, [], [], .slice none 0 0, .slice none 0 0⟩).2⟩
end Go.Proofs.YtpchjpmkkiopiaaGreat
