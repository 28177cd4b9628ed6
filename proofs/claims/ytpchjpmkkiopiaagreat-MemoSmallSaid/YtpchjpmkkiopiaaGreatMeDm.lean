import Derived.Test.YtpchjpmkkiopiaaGreatMeCm
import Derived.Test.YtpchjpmkkiopiaaGreatMaEm
namespace Go.Proofs.YtpchjpmkkiopiaaGreat
open Go.RowKit Go.Lib

theorem name_look {w : World} {km : Nat} {L : List Rec} (h : MapV intK w km L.length (fun n => (fndN L n).map fun r => kyv r.k)) {r : Rec} (hr : fndN L r.n = some r) (hw : W64 r.n) :
    (Instr.lookup 69 (.map (some km)) (.int .i64 r.n) false).run Tryz.prog w = .ok (.agg #[.int .i64 r.k.rule, .int .i64 r.k.level, .int .i64 r.k.place]) w := by
  have := h.look (z := .agg #[.int .i64 0, .int .i64 0, .int .i64 0]) Tryz.underlying69 (by kernel_rfl) (x := r.n) hw false
  rw [hr] at this
  exact this
theorem key_look {w : World} {nm : Nat} {L : List Rec} (h : MapV kyK w nm L.length (fun k => (fndK L k).map fun r => .int .i64 r.n)) {k : Ky} {r : Rec} (hr : fndK L k = some r) (hw : kyOk k) :
    (Instr.lookup 68 (.map (some nm)) (.agg #[.int .i64 k.rule, .int .i64 k.level, .int .i64 k.place]) false).run Tryz.prog w = .ok (.int .i64 r.n) w := by
  have := h.look (z := .int .i64 0) Tryz.underlying68 (by kernel_rfl) (x := k) hw false
  rw [hr] at this
  exact this
theorem Ord.w64 {L : List Rec} {next : Int} (h : Ord L next) (hn : next ≤ 1000000) {r : Rec} (hr : r ∈ L) : W64 r.n := by
  have := h.lt r hr
  exact kx_small (by omega) (by omega)
theorem w64_small {n : Int} (h : -1000000 ≤ n) (h2 : n ≤ 1000000) : W64 n := kx_small h h2
set_option maxRecDepth 100000 in
set_option maxHeartbeats 2000000 in
theorem first_any [Watch] {base : Nat} {p q nm km em : Nat} {next room peak : Int} {L : List Rec} (w : World) (h : LnIs base w p q nm km em next room peak L) (hL : L ≠ []) :
    Calls Tryz.prog 33 #[.pointer (some ⟨p, 0, none⟩)] w fun e w' => ∃ r, FirstK L r ∧ e = .returned (kyv r.k) ∧ Below w.heap.size w w' := by
  have H := Lib.hid h
  clear h
  go_enter Tryz.func33, Tryz.ntmps33
  go_upto_region 1 with (fail)
  refine gen_world (S := fun u => Below w.heap.size w u ∧ u.heap[w.heap.size]? = some (.cells #[.int .i64 0, .int .i64 0, .int .i64 0] 24 (0, 0))) (one_new w _) (fun u hu => ?_)
  obtain ⟨hb, hx⟩ := hu
  obtain ⟨X, hX⟩ : ∃ X, X = w.heap.size := ⟨_, rfl⟩
  have HXe := Lib.hid hX
  rw [← hX] at hx ⊢
  have HB := Lib.hid hb
  have HX := Lib.hid hx
  have Hu := Lib.hid (H.out.later hb)
  clear hX hb hx
  obtain ⟨en, hf, hcall⟩ := @quFirst (inw nm km em) _ _ _ _ u Hu.out.qu (by simpa using hL)
  obtain ⟨r, hfr, rfl⟩ := first_map hf
  have HF := Lib.hid hfr
  have HC := Lib.hid hcall
  obtain ⟨⟨c0, -⟩, -⟩ := seven_box Hu.out.blk
  clear hf hcall hfr
  go_wp2_with fail
  refine HC.out.mono ?_
  rintro e u2 ⟨rfl, hb2⟩
  have HB2 := Lib.hid (HB.out.trans (hb2.mono HB.out.size))
  have HX2 := Lib.hid ((hb2.block _ (lt_of_block HX.out)).trans HX.out)
  clear hb2 c0 HC Hu HB HX
  unfold enR
  go_upto_region 2 with (fail)
  have hn := one_new u2 (.cells #[.int .i64 r.k.place, .int .i64 r.n] 118 (0, 0))
  refine gen_world (S := fun u => Below w.heap.size w u ∧ u.heap[X]? = some (.cells #[.int .i64 0, .int .i64 0, .int .i64 0] 24 (0, 0)) ∧ u.heap[u2.heap.size]? = some (.cells #[.int .i64 r.k.place, .int .i64 r.n] 118 (0, 0))) ⟨HB2.out.trans (hn.1.mono HB2.out.size), (hn.1.block _ (lt_of_block HX2.out)).trans HX2.out, hn.2⟩ (fun u3 hu => ?_)
  obtain ⟨hb3, hx3, hi3⟩ := hu
  have HY := Lib.hid (lt_of_block HX2.out)
  obtain ⟨Y, hY⟩ : ∃ Y, Y = u2.heap.size := ⟨_, rfl⟩
  have HYe := Lib.hid hY
  rw [← hY] at hi3 ⊢
  have HS3 := Lib.hid (And.intro hb3 (And.intro hx3 hi3))
  have HLk := Lib.hid (fun (wS : World) (hw : Below w.heap.size w wS) => name_look (H.out.later hw).keys (fndN_is H.out.ord.rise HF.out.1) (H.out.ord.w64 (by have := H.out.nle; omega) HF.out.1))
  have HBlk := Lib.hid (fun (wS : World) (hw : Below w.heap.size w wS) => (H.out.later hw).blk)
  clear hY hb3 hx3 hi3 hn HB2 HX2
  refine wp_region_held_drew (S := fun u => Below w.heap.size w u ∧ u.heap[Y]? = some (.cells #[.int .i64 r.k.place, .int .i64 r.n] 118 (0, 0))) (by kernel_rfl) ⟨HS3.out.1.drew, HS3.out.2.2⟩ (fun hS => ?_)
  refine wpAnyH_take (i := 0) (oi := ⟨_, _, _, _, _, _⟩) (v := ?v1) rfl (by kernel_rfl) (by kernel_rfl) (by kernel_rfl) (fun _ _ _ h => h) ?y1 hS ?_
  case y1 => first | (refine Or.inr ⟨by rfl, ?_⟩; with_reducible rfl) | (refine Or.inl ⟨by rfl, ?_⟩; intro wS hSw; obtain ⟨⟨-, -, a2, -⟩, -⟩ := seven_box (HBlk.out wS hSw.1); obtain ⟨b0, b1⟩ := two_box hSw.2; have lk := HLk.out wS hSw.1; go_simp; try with_reducible rfl)
  simp only [Act.put, List.setIfInBounds_toArray, List.set_cons_zero, List.set_cons_succ]
  refine wpAnyH_take (i := 1) (oi := ⟨_, _, _, _, _, _⟩) (v := ?v2) rfl (by kernel_rfl) (by kernel_rfl) (by kernel_rfl) (fun _ _ _ h => h) ?y2 hS ?_
  case y2 => first | (refine Or.inr ⟨by rfl, ?_⟩; with_reducible rfl) | (refine Or.inl ⟨by rfl, ?_⟩; intro wS hSw; obtain ⟨⟨-, -, a2, -⟩, -⟩ := seven_box (HBlk.out wS hSw.1); obtain ⟨b0, b1⟩ := two_box hSw.2; have lk := HLk.out wS hSw.1; go_simp; try with_reducible rfl)
  simp only [Act.put, List.setIfInBounds_toArray, List.set_cons_zero, List.set_cons_succ]
  refine wpAnyH_take (i := 2) (oi := ⟨_, _, _, _, _, _⟩) (v := ?v3) rfl (by kernel_rfl) (by kernel_rfl) (by kernel_rfl) (fun _ _ _ h => h) ?y3 hS ?_
  case y3 => first | (refine Or.inr ⟨by rfl, ?_⟩; with_reducible rfl) | (refine Or.inl ⟨by rfl, ?_⟩; intro wS hSw; obtain ⟨⟨-, -, a2, -⟩, -⟩ := seven_box (HBlk.out wS hSw.1); obtain ⟨b0, b1⟩ := two_box hSw.2; have lk := HLk.out wS hSw.1; go_simp; try with_reducible rfl)
  simp only [Act.put, List.setIfInBounds_toArray, List.set_cons_zero, List.set_cons_succ]
  refine wpAnyH_take (i := 3) (oi := ⟨_, _, _, _, _, _⟩) (v := ?v4) rfl (by kernel_rfl) (by kernel_rfl) (by kernel_rfl) (fun _ _ _ h => h) ?y4 hS ?_
  case y4 => first | (refine Or.inr ⟨by rfl, ?_⟩; with_reducible rfl) | (refine Or.inl ⟨by rfl, ?_⟩; intro wS hSw; obtain ⟨⟨-, -, a2, -⟩, -⟩ := seven_box (HBlk.out wS hSw.1); obtain ⟨b0, b1⟩ := two_box hSw.2; have lk := HLk.out wS hSw.1; go_simp; try with_reducible rfl)
  simp only [Act.put, List.setIfInBounds_toArray, List.set_cons_zero, List.set_cons_succ]
  refine wpAnyH_take (i := 4) (oi := ⟨_, _, _, _, _, _⟩) (v := ?v5) rfl (by kernel_rfl) (by kernel_rfl) (by kernel_rfl) (fun _ _ _ h => h) ?y5 hS ?_
  case y5 => first | (refine Or.inr ⟨by rfl, ?_⟩; with_reducible rfl) | (refine Or.inl ⟨by rfl, ?_⟩; intro wS hSw; obtain ⟨⟨-, -, a2, -⟩, -⟩ := seven_box (HBlk.out wS hSw.1); obtain ⟨b0, b1⟩ := two_box hSw.2; have lk := HLk.out wS hSw.1; go_simp; try with_reducible rfl)
  simp only [Act.put, List.setIfInBounds_toArray, List.set_cons_zero, List.set_cons_succ]
  refine wpAnyH_take (i := 5) (oi := ⟨_, _, _, _, _, _⟩) (v := ?v6) rfl (by kernel_rfl) (by kernel_rfl) (by kernel_rfl) (fun _ _ _ h => h) ?y6 hS ?_
  case y6 => first | (refine Or.inr ⟨by rfl, ?_⟩; with_reducible rfl) | (refine Or.inl ⟨by rfl, ?_⟩; intro wS hSw; obtain ⟨⟨-, -, a2, -⟩, -⟩ := seven_box (HBlk.out wS hSw.1); obtain ⟨b0, b1⟩ := two_box hSw.2; have lk := HLk.out wS hSw.1; go_simp; try with_reducible rfl)
  simp only [Act.put, List.setIfInBounds_toArray, List.set_cons_zero, List.set_cons_succ]
  refine wpAnyH_take (i := 6) (oi := ⟨_, _, _, _, _, _⟩) (v := ?v7) rfl (by kernel_rfl) (by kernel_rfl) (by kernel_rfl) (fun _ _ _ h => h) ?y7 hS ?_
  case y7 => first | (refine Or.inr ⟨by rfl, ?_⟩; with_reducible rfl) | (refine Or.inl ⟨by rfl, ?_⟩; intro wS hSw; obtain ⟨⟨-, -, a2, -⟩, -⟩ := seven_box (HBlk.out wS hSw.1); obtain ⟨b0, b1⟩ := two_box hSw.2; have lk := HLk.out wS hSw.1; go_simp; try with_reducible rfl)
  simp only [Act.put, List.setIfInBounds_toArray, List.set_cons_zero, List.set_cons_succ]
  refine wpAnyH_ready (rs := [7]) (by kernel_rfl) (by simp) ?_
  refine AllReadyH.cons (o := ⟨_, _, _, _, _, _⟩) rfl (fun K hK => ?_) AllReadyH.nil
  have hx := HS3.out.2.1
  obtain ⟨x0, x1, x2, f0, f1, f2⟩ := three_box hx
  go_simp
  have hk := (((Keeps.refl (fun k => k = X) u3).setCell (p := ⟨X, 0, none⟩) rfl (.int .i64 r.k.rule)).setCell (p := ⟨X, 1, none⟩) rfl (.int .i64 r.k.level)).setCell (p := ⟨X, 2, none⟩) rfl (.int .i64 r.k.place)
  have hbx := HS3.out.1.trans (hk.below HS3.out.1.size (fun k e => by have := HXe.out; omega))
  refine hK.out _ _ ⟨hbx.drew, hk.obj HS3.out.2.2 (by have := HY.out; have := HYe.out; omega)⟩ (fun hSd => ?_)
  clear hSd hK K x0 x1 x2 f0 f1 f2
  try simp only [Act.put, List.setIfInBounds_toArray, List.set_cons_zero, List.set_cons_succ]
  refine wpAnyH_done (by kernel_rfl) ?_ _
  obtain ⟨hs3, -⟩ := set3 hx (.int .i64 r.k.rule) (.int .i64 r.k.level) (.int .i64 r.k.place)
  obtain ⟨q0, q1, q2, -⟩ := three_box hs3
  have HR := Lib.hid hbx.drew
  clear hx hk hbx hs3 hS
  go_wp2
  exact bodyPost_ret (v := .agg #[.int .i64 r.k.rule, .int .i64 r.k.level, .int .i64 r.k.place]) (by simp [results, Tryz.f33, go_sem, q0, q1, q2]) rfl ⟨r, HF.out, rfl, HR.out⟩
/-- behind a deed of the queue. -/
theorem LnIs.afterQ [Watch] {base : Nat} {p q nm km em : Nat} {next room peak : Int} {L : List Rec} {w w' : World} (h : LnIs base w p q nm km em next room peak L) (hk : @KeepQ (inw nm km em) base q w w') :
    w'.heap[p]? = some (.cells #[.pointer (some ⟨q, 0, none⟩), .map (some nm), .map (some km), .int .i64 next, .int .i64 room, .int .i64 peak, .map (some em)] 74 (0, 0)) ∧ MapV kyK w' nm L.length (fun k => (fndK L k).map fun r => .int .i64 r.n) ∧ MapV intK w' km L.length (fun n => (fndN L n).map fun r => kyv r.k) ∧ KeepX base em w w' := by
  obtain ⟨cs, hq⟩ := @Qu.qblk (inw nm km em) _ _ _ _ _ h.qu
  refine ⟨@KeepQ.cells (inw nm km em) _ _ _ _ hk _ _ _ _ h.blk (by decide) (fun e => by have := h.blk; rw [e, hq] at this; simp at this), h.names.keeps hk ?_, h.keys.keeps hk ?_, KeepX.ofQ h hk⟩
  · rintro (hS | hS)
    · exact hS.1.2 (.inr (.inl rfl))
    · obtain ⟨es, clock, h1⟩ := h.names.blk
      rw [hS, hq] at h1; simp at h1
  · rintro (hS | hS)
    · exact hS.1.2 (.inr (.inr (.inl rfl)))
    · obtain ⟨es, clock, h1⟩ := h.keys.blk
      rw [hS, hq] at h1; simp at h1
theorem LnIs.n_q [Watch] {base : Nat} {p q nm km em : Nat} {next room peak : Int} {L : List Rec} {w : World} (h : LnIs base w p q nm km em next room peak L) : nm ≠ q ∧ km ≠ q ∧ nm ≠ p ∧ km ≠ p := by
  obtain ⟨cs, hq⟩ := @Qu.qblk (inw nm km em) _ _ _ _ _ h.qu
  obtain ⟨es, clock, h1⟩ := h.names.blk
  obtain ⟨es2, clock2, h2⟩ := h.keys.blk
  have h3 := h.blk
  refine ⟨fun e => ?_, fun e => ?_, fun e => ?_, fun e => ?_⟩
  · rw [e, hq] at h1; simp at h1
  · rw [e, hq] at h2; simp at h2
  · rw [e, h3] at h1; simp at h1
  · rw [e, h3] at h2; simp at h2
theorem keepX_map [Watch] {base em m : Nat} {w w' : World} (hk : Keeps (· = m) w w') (hb : base ≤ m) (hw : ¬ Watch.W m) (hm : ∃ es clock, w.heap[m]? = some (.map es clock)) (hne : m ≠ em) : KeepX base em w w' := Keeps.mono hk fun k _ e => by
  subst e
  obtain ⟨es, clock, h1⟩ := hm
  exact ⟨⟨⟨hb, hw⟩, by rw [h1]; trivial⟩, hne⟩
theorem leave_close [Watch] {base : Nat} {p q nm km em : Nat} {next room peak : Int} {L : List Rec} {k : Ky} {r : Rec} {w u2 u3 u4 : World} (h : LnIs base w p q nm km em next room peak L) (hr : fndK L k = some r) (hq : @Qu (inw nm km em) base u2 q next (dropN (L.map enR) r.n)) (hk : @KeepQ (inw nm km em) base q w u2)
    (hm3 : MapV kyK u3 nm (if ((fndK L k).map fun r => Value.int .i64 r.n).isSome then L.length - 1 else L.length) (setV (fun k => (fndK L k).map fun r => Value.int .i64 r.n) k none)) (hk3 : Keeps (· = nm) u2 u3)
    (hm4 : MapV intK u4 km (if ((fndN L r.n).map fun r => kyv r.k).isSome then L.length - 1 else L.length) (setV (fun n => (fndN L n).map fun r => kyv r.k) r.n none)) (hk4 : Keeps (· = km) u3 u4) :
    LnIs base u4 p q nm km em next room peak (dropK L k) ∧ KeepX base em w u4 := by
  obtain ⟨hrL, rfl⟩ := fndK_some hr
  obtain ⟨n1, n2, n3, n4⟩ := h.n_q
  obtain ⟨b2, e2, f2, x2⟩ := h.afterQ hk
  have hlen := dropK_len h.ord.once (k := r.k) (by unfold hasK; rw [hr]; rfl)
  have hx3 : KeepX base em u2 u3 := keepX_map hk3 h.bn h.wn e2.blk h.n13
  have f3 := f2.keeps hk3 (fun e => h.n12 e.symm)
  have hx4 : KeepX base em u3 u4 := keepX_map hk4 h.bk h.wk f3.blk h.n23
  have hX := (x2.trans hx3).trans hx4
  rw [dropN_map h.ord hrL] at hq
  have q3 := @Qu.keepsW (inw nm km em) _ _ _ _ _ _ _ hq hk3 (fun k e => by subst e; exact ⟨n1, .inl (.inr (.inl rfl))⟩)
  have q4 := @Qu.keepsW (inw nm km em) _ _ _ _ _ _ _ q3 hk4 (fun k e => by subst e; exact ⟨n2, .inl (.inr (.inr (.inl rfl)))⟩)
  have m3 := hm3.keeps hk4 (fun e => h.n12 e)
  rw [hr, Option.map_some, Option.isSome_some, if_pos rfl, show L.length - 1 = (dropK L r.k).length by omega] at m3
  rw [fndN_is h.ord.rise hrL, Option.map_some, Option.isSome_some, if_pos rfl, show L.length - 1 = (dropK L r.k).length by omega] at hm4
  refine ⟨{ h with blk := hk4.obj (hk3.obj b2 (fun e => n3 e.symm)) (fun e => n4 e.symm), qu := q4, names := m3.ext (fun k' _ => ?_), keys := hm4.ext (fun n' _ => ?_), ord := h.ord.drop _, le := by have := h.le; omega, lim := Nat.le_trans h.lim hX.size }, hX⟩
  · rw [fndK_drop h.ord.once]
    by_cases e : k' = r.k
    · rw [if_pos e, e, setV_same]; rfl
    · rw [if_neg e, setV_other _ _ e]
  · rw [fndN_drop h.ord hrL]
    by_cases e : n' = r.n
    · rw [if_pos e, e, setV_same]; rfl
    · rw [if_neg e, setV_other _ _ e]
set_option maxRecDepth 100000 in
set_option maxHeartbeats 2000000 in
theorem leave_any [Watch] {base : Nat} {p q nm km em : Nat} {next room peak : Int} {L : List Rec} {k : Ky} {r : Rec} (w : World) (h : LnIs base w p q nm km em next room peak L) (hr : fndK L k = some r) :
    Calls Tryz.prog 38 #[.pointer (some ⟨p, 0, none⟩), kyv k] w fun e w' => e = .returned (.tuple #[]) ∧ LnIs base w' p q nm km em next room peak (dropK L k) ∧ KeepX base em w w' := by
  have H := Lib.hid h
  have HR := Lib.hid hr
  have HOk := Lib.hid (show kyOk k from by obtain ⟨h1, rfl⟩ := fndK_some hr; exact h.ord.wf _ h1)
  have HWn := Lib.hid (show W64 r.n from h.ord.w64 (by have := h.nle; omega) (fndK_some hr).1)
  clear h hr
  go_enter Tryz.func38, Tryz.ntmps38
  go_upto_region 1 with (fail)
  refine gen_world (S := fun u => Below w.heap.size w u ∧ u.heap[w.heap.size]? = some (.cells #[.int .i64 k.rule, .int .i64 k.level, .int .i64 k.place] 24 (0, 0))) (one_new w _) (fun u hu => ?_)
  obtain ⟨hb, hx⟩ := hu
  obtain ⟨X, hX⟩ : ∃ X, X = w.heap.size := ⟨_, rfl⟩
  have HXe := Lib.hid hX
  rw [← hX] at hx ⊢
  have HB := Lib.hid hb
  have HX := Lib.hid hx
  have Hu := Lib.hid (H.out.later hb)
  clear hX hb hx
  have HLk := Lib.hid (fun (wS : World) (hw : Below u.heap.size u wS) => key_look (Hu.out.later hw).names HR.out HOk.out)
  have HBlk := Lib.hid (fun (wS : World) (hw : Below u.heap.size u wS) => (Hu.out.later hw).blk)
  refine wp_region_held_drew (S := fun v => Below u.heap.size u v) (by kernel_rfl) (Below.refl u.heap.size u).drew (fun hS => ?_)
  refine wpAnyH_take (i := 0) (oi := ⟨_, _, _, _, _, _⟩) (v := ?v8) rfl (by kernel_rfl) (by kernel_rfl) (by kernel_rfl) (fun _ _ _ h => h) ?y8 hS ?_
  case y8 => first | (refine Or.inr ⟨by rfl, ?_⟩; with_reducible rfl) | (refine Or.inl ⟨by rfl, ?_⟩; intro wS hSw; obtain ⟨⟨-, a1, -⟩, -⟩ := seven_box (HBlk.out wS hSw); obtain ⟨b0, b1, b2, -⟩ := three_box ((hSw.block _ (lt_of_block HX.out)).trans HX.out); have lk := HLk.out wS hSw; go_simp; try with_reducible rfl)
  simp only [Act.put, List.setIfInBounds_toArray, List.set_cons_zero, List.set_cons_succ]
  refine wpAnyH_take (i := 1) (oi := ⟨_, _, _, _, _, _⟩) (v := ?v9) rfl (by kernel_rfl) (by kernel_rfl) (by kernel_rfl) (fun _ _ _ h => h) ?y9 hS ?_
  case y9 => first | (refine Or.inr ⟨by rfl, ?_⟩; with_reducible rfl) | (refine Or.inl ⟨by rfl, ?_⟩; intro wS hSw; obtain ⟨⟨-, a1, -⟩, -⟩ := seven_box (HBlk.out wS hSw); obtain ⟨b0, b1, b2, -⟩ := three_box ((hSw.block _ (lt_of_block HX.out)).trans HX.out); have lk := HLk.out wS hSw; go_simp; try with_reducible rfl)
  simp only [Act.put, List.setIfInBounds_toArray, List.set_cons_zero, List.set_cons_succ]
  refine wpAnyH_take (i := 2) (oi := ⟨_, _, _, _, _, _⟩) (v := ?v10) rfl (by kernel_rfl) (by kernel_rfl) (by kernel_rfl) (fun _ _ _ h => h) ?y10 hS ?_
  case y10 => first | (refine Or.inr ⟨by rfl, ?_⟩; with_reducible rfl) | (refine Or.inl ⟨by rfl, ?_⟩; intro wS hSw; obtain ⟨⟨-, a1, -⟩, -⟩ := seven_box (HBlk.out wS hSw); obtain ⟨b0, b1, b2, -⟩ := three_box ((hSw.block _ (lt_of_block HX.out)).trans HX.out); have lk := HLk.out wS hSw; go_simp; try with_reducible rfl)
  simp only [Act.put, List.setIfInBounds_toArray, List.set_cons_zero, List.set_cons_succ]
  refine wpAnyH_take (i := 3) (oi := ⟨_, _, _, _, _, _⟩) (v := ?v11) rfl (by kernel_rfl) (by kernel_rfl) (by kernel_rfl) (fun _ _ _ h => h) ?y11 hS ?_
  case y11 => first | (refine Or.inr ⟨by rfl, ?_⟩; with_reducible rfl) | (refine Or.inl ⟨by rfl, ?_⟩; intro wS hSw; obtain ⟨⟨-, a1, -⟩, -⟩ := seven_box (HBlk.out wS hSw); obtain ⟨b0, b1, b2, -⟩ := three_box ((hSw.block _ (lt_of_block HX.out)).trans HX.out); have lk := HLk.out wS hSw; go_simp; try with_reducible rfl)
  simp only [Act.put, List.setIfInBounds_toArray, List.set_cons_zero, List.set_cons_succ]
  refine wpAnyH_take (i := 4) (oi := ⟨_, _, _, _, _, _⟩) (v := ?v12) rfl (by kernel_rfl) (by kernel_rfl) (by kernel_rfl) (fun _ _ _ h => h) ?y12 hS ?_
  case y12 => first | (refine Or.inr ⟨by rfl, ?_⟩; with_reducible rfl) | (refine Or.inl ⟨by rfl, ?_⟩; intro wS hSw; obtain ⟨⟨-, a1, -⟩, -⟩ := seven_box (HBlk.out wS hSw); obtain ⟨b0, b1, b2, -⟩ := three_box ((hSw.block _ (lt_of_block HX.out)).trans HX.out); have lk := HLk.out wS hSw; go_simp; try with_reducible rfl)
  simp only [Act.put, List.setIfInBounds_toArray, List.set_cons_zero, List.set_cons_succ]
  refine wpAnyH_take (i := 5) (oi := ⟨_, _, _, _, _, _⟩) (v := ?v13) rfl (by kernel_rfl) (by kernel_rfl) (by kernel_rfl) (fun _ _ _ h => h) ?y13 hS ?_
  case y13 => first | (refine Or.inr ⟨by rfl, ?_⟩; with_reducible rfl) | (refine Or.inl ⟨by rfl, ?_⟩; intro wS hSw; obtain ⟨⟨-, a1, -⟩, -⟩ := seven_box (HBlk.out wS hSw); obtain ⟨b0, b1, b2, -⟩ := three_box ((hSw.block _ (lt_of_block HX.out)).trans HX.out); have lk := HLk.out wS hSw; go_simp; try with_reducible rfl)
  simp only [Act.put, List.setIfInBounds_toArray, List.set_cons_zero, List.set_cons_succ]
  refine wpAnyH_take (i := 6) (oi := ⟨_, _, _, _, _, _⟩) (v := ?v14) rfl (by kernel_rfl) (by kernel_rfl) (by kernel_rfl) (fun _ _ _ h => h) ?y14 hS ?_
  case y14 => first | (refine Or.inr ⟨by rfl, ?_⟩; with_reducible rfl) | (refine Or.inl ⟨by rfl, ?_⟩; intro wS hSw; obtain ⟨⟨-, a1, -⟩, -⟩ := seven_box (HBlk.out wS hSw); obtain ⟨b0, b1, b2, -⟩ := three_box ((hSw.block _ (lt_of_block HX.out)).trans HX.out); have lk := HLk.out wS hSw; go_simp; try with_reducible rfl)
  simp only [Act.put, List.setIfInBounds_toArray, List.set_cons_zero, List.set_cons_succ]
  refine wpAnyH_done (by kernel_rfl) ?_ _
  have Hd := Lib.hid (Hu.out.later hS)
  have HXd := Lib.hid ((hS.block _ (lt_of_block HX.out)).trans HX.out)
  have HBd := Lib.hid (HB.out.trans (hS.mono HB.out.size))
  clear hS HLk HBlk
  obtain ⟨⟨c0, c1, c2, -⟩, -⟩ := seven_box Hd.out.blk
  go_wp2_with fail
  refine (@quDrop (inw nm km em) _ _ _ _ r.n _ Hd.out.qu HWn.out).mono ?_
  rintro e u2 ⟨rfl, hq, hk⟩
  have HQ := Lib.hid hq
  have HK := Lib.hid hk
  obtain ⟨b2, m2, n2, x2⟩ := Hd.out.afterQ hk
  have HX2 := Lib.hid (x2.keepM.cells HXd.out (by decide))
  have HB2 := Lib.hid b2
  obtain ⟨u3, hrun3, hm3, hk3⟩ := (m2.later (Below.refl u2.heap.size u2).drew).del Tryz.underlying68 HOk.out 0
  have HRun3 := Lib.hid hrun3
  have HM3 := Lib.hid hm3
  have hk3' : Keeps (· = nm) u2 u3 := (Keeps.ofNew (Below.refl u2.heap.size u2).drew _).trans hk3
  have HK3 := Lib.hid hk3'
  obtain ⟨n1, n2', n3, n4⟩ := Hd.out.n_q
  have HB3 := Lib.hid (hk3'.obj b2 (fun e => n3 e.symm))
  obtain ⟨u4, hrun4, hm4, hk4⟩ := (n2.keeps hk3' (fun e => Hd.out.n12 e.symm)).del Tryz.underlying69 HWn.out 0
  have HRun4 := Lib.hid hrun4
  have HE := Lib.hid (leave_close Hd.out HR.out hq hk hm3 hk3' hm4 hk4)
  have HX3 := Lib.hid (hk3'.obj HX2.out (fun e => by obtain ⟨es, ck, h1⟩ := m2.blk; have := HX2.out; rw [e, h1] at this; simp at this))
  clear hq hk b2 m2 n2 x2 hrun3 hm3 hk3 hk3' n1 n2' n3 n4 hrun4 hm4 hk4 c0 c1 c2
  go_upto_region 3 with (fail)
  refine wp_region_held_drew (S := fun v => v.heap[p]? = some (.cells #[.pointer (some ⟨q, 0, none⟩), .map (some nm), .map (some km), .int .i64 next, .int .i64 room, .int .i64 peak, .map (some em)] 74 (0, 0)) ∧ v.heap[X]? = some (.cells #[.int .i64 k.rule, .int .i64 k.level, .int .i64 k.place] 24 (0, 0))) (by kernel_rfl) ⟨HB2.out, HX2.out⟩ (fun hS => ?_)
  refine wpAnyH_take (i := 0) (oi := ⟨_, _, _, _, _, _⟩) (v := ?v15) rfl (by kernel_rfl) (by kernel_rfl) (by kernel_rfl) (fun _ _ _ h => h) ?y15 hS ?_
  case y15 => first | (refine Or.inr ⟨by rfl, ?_⟩; with_reducible rfl) | (refine Or.inl ⟨by rfl, ?_⟩; intro wS hSw; obtain ⟨⟨-, a1, -⟩, -⟩ := seven_box hSw.1; obtain ⟨b0, b1, b2, -⟩ := three_box hSw.2; go_simp; try with_reducible rfl)
  simp only [Act.put, List.setIfInBounds_toArray, List.set_cons_zero, List.set_cons_succ]
  refine wpAnyH_take (i := 1) (oi := ⟨_, _, _, _, _, _⟩) (v := ?v16) rfl (by kernel_rfl) (by kernel_rfl) (by kernel_rfl) (fun _ _ _ h => h) ?y16 hS ?_
  case y16 => first | (refine Or.inr ⟨by rfl, ?_⟩; with_reducible rfl) | (refine Or.inl ⟨by rfl, ?_⟩; intro wS hSw; obtain ⟨⟨-, a1, -⟩, -⟩ := seven_box hSw.1; obtain ⟨b0, b1, b2, -⟩ := three_box hSw.2; go_simp; try with_reducible rfl)
  simp only [Act.put, List.setIfInBounds_toArray, List.set_cons_zero, List.set_cons_succ]
  refine wpAnyH_take (i := 2) (oi := ⟨_, _, _, _, _, _⟩) (v := ?v17) rfl (by kernel_rfl) (by kernel_rfl) (by kernel_rfl) (fun _ _ _ h => h) ?y17 hS ?_
  case y17 => first | (refine Or.inr ⟨by rfl, ?_⟩; with_reducible rfl) | (refine Or.inl ⟨by rfl, ?_⟩; intro wS hSw; obtain ⟨⟨-, a1, -⟩, -⟩ := seven_box hSw.1; obtain ⟨b0, b1, b2, -⟩ := three_box hSw.2; go_simp; try with_reducible rfl)
  simp only [Act.put, List.setIfInBounds_toArray, List.set_cons_zero, List.set_cons_succ]
  refine wpAnyH_take (i := 3) (oi := ⟨_, _, _, _, _, _⟩) (v := ?v18) rfl (by kernel_rfl) (by kernel_rfl) (by kernel_rfl) (fun _ _ _ h => h) ?y18 hS ?_
  case y18 => first | (refine Or.inr ⟨by rfl, ?_⟩; with_reducible rfl) | (refine Or.inl ⟨by rfl, ?_⟩; intro wS hSw; obtain ⟨⟨-, a1, -⟩, -⟩ := seven_box hSw.1; obtain ⟨b0, b1, b2, -⟩ := three_box hSw.2; go_simp; try with_reducible rfl)
  simp only [Act.put, List.setIfInBounds_toArray, List.set_cons_zero, List.set_cons_succ]
  refine wpAnyH_take (i := 4) (oi := ⟨_, _, _, _, _, _⟩) (v := ?v19) rfl (by kernel_rfl) (by kernel_rfl) (by kernel_rfl) (fun _ _ _ h => h) ?y19 hS ?_
  case y19 => first | (refine Or.inr ⟨by rfl, ?_⟩; with_reducible rfl) | (refine Or.inl ⟨by rfl, ?_⟩; intro wS hSw; obtain ⟨⟨-, a1, -⟩, -⟩ := seven_box hSw.1; obtain ⟨b0, b1, b2, -⟩ := three_box hSw.2; go_simp; try with_reducible rfl)
  simp only [Act.put, List.setIfInBounds_toArray, List.set_cons_zero, List.set_cons_succ]
  refine wpAnyH_ready (rs := [5]) (by kernel_rfl) (by simp) ?_
  refine AllReadyH.cons (o := ⟨_, _, _, _, _, _⟩) rfl (fun K hK => ?_) AllReadyH.nil
  refine step_delete (by rfl) _ _ _ _ (by rfl) (.map (some nm)) (.agg #[.int .i64 k.rule, .int .i64 k.level, .int .i64 k.place]) (by rfl) (by rfl) u3 HRun3.out ?_
  refine hK.out _ _ ⟨HB3.out, HX3.out⟩ (fun hSd => ?_)
  clear hSd hK K
  try simp only [Act.put, List.setIfInBounds_toArray, List.set_cons_zero, List.set_cons_succ]
  refine wpAnyH_done (by kernel_rfl) ?_ _
  clear hS
  obtain ⟨⟨-, -, c2, -⟩, -⟩ := seven_box HB3.out
  have hrun4 : (Builtin.delete_ #[69, 3] 0 #[.map (some km), .int .i64 r.n]).run Tryz.prog u3 = .ok (.tuple #[]) u4 := HRun4.out
  go_wp2
  go_end0
  exact ⟨rfl, HE.out.1, KeepX.trans (Keeps.ofNew HBd.out _) HE.out.2⟩
end Go.Proofs.YtpchjpmkkiopiaaGreat
